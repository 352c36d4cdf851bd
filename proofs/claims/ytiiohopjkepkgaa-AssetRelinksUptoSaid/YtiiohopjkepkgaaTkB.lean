/-
  Tokens: mastref2.TokensOf.
-/
import Derived.Test.YtiiohopjkepkgaaTkA
namespace Go.Proofs.Ytiiohopjkepkgaa
open Go.RowKit
set_option linter.unusedVariables false
set_option linter.unusedSimpArgs false
namespace tk
theorem blk_yes {c : Nat} (h : blkB c = true) : c = 32 ∨ c = 9 ∨ c = 10 := by unfold blkB at h; simpa using h
theorem blk_no {c : Nat} (h : blkB c = false) : ¬ c = 32 ∧ ¬ c = 9 ∧ ¬ c = 10 := by unfold blkB at h; simpa using h
section
variable (E : Env)
set_option maxRecDepth 100000
theorem row_p2 (l : List Tk) (t : Tk) (cs : List DD) (hcs : cs = [i64 t.k, dS t.t]) (i j : Nat) (hi : i < l.length + 1) (hj : j < 2) : Dle (cx Try.prog mixed tyT_ok E) (if i < l.length then rowP l i j else cs.getD ((i - l.length + 0) * 2 + j) .opq) (rowP (l ++ [t]) i j) := by
  subst hcs
  rcases Nat.lt_or_ge i l.length with h | h
  · rw [if_pos h]
    refine Dle.of_eq ?_
    unfold rowP
    simp only [List.getD]
    rw [List.getElem?_append_left h]
  · obtain rfl : i = l.length := by omega
    rw [if_neg (by omega)]
    match j, hj with
    | 0, _ => exact Dle.of_eq (by simp [rowP, List.getD])
    | 1, _ => exact Dle.of_eq (by simp [rowP, List.getD])
set_option maxHeartbeats 16000000 in
theorem tokensIn_sp (hML : ∀ w, E.G w → ML w) (s : ByteArray) (hs : s.size < 4294967281) (sc : Bool) : Sp (cx Try.prog mixed tyT_ok E) 19 [dS s, dB sc] (encPs (dv cmE s sc 0 [])) := by
  obtain ⟨r, hr⟩ : ∃ r, r = dv cmE s sc 0 [] := ⟨_, rfl⟩
  rw [← hr]
  have hrb := refused_sp E s
  obtain ⟨z, hz0⟩ : ∃ z, z = chk s 0 s.size := ⟨_, rfl⟩
  rw [← hz0] at hrb
  refine Sp.body Try.func19 (by kernel_rfl) rfl (by kernel_rfl) (by kernel_rfl) (by kernel_rfl) ?_
  repeat' first
    | (refine facW_intro ?_; intro _)
    | refine Or.inl ?_
    | ((conv => whnf); first | (refine condW_dec ?_ ?_ <;> intro _ <;> try (exfalso; omega)) | refine condW_not ?_ | (refine condW_bool ?_ ?_ <;> intro _ <;> try (exfalso; omega)) | (refine nbC_t (fun _ => ?_) ?_) | (refine nbC_f ?_ (fun _ => ?_)))
    | refine And.intro (by first | omega | (simp only [Int.toNat_natCast] at *; omega) | (simp only [Nat.reduceAdd, Int.cast_ofNat_Int, true_and, and_true]; omega) | kernel_rfl) ?_
    | refine RegW.run ?_
    | refine ⟨_, hrb, ?_⟩
    | fail
  refine ⟨Nat × List Tk, fun k => [(9, i64 k.1), (7, .own 16 2 0 k.2.length)], fun k => [], [], fun k => [(16, 60, k.2.length, rowP k.2)], fun k => k.1 ≤ s.size ∧ k.2.length ≤ k.1 ∧ r = dv cmE s sc k.1 k.2 ∧ z = chk s k.1 s.size, fun k => s.size - k.1, ⟨(0, []), ⟨Nat.zero_le _, Nat.le_refl _, hr, hz0⟩, ⟨[(16, none)], ⟨by kernel_rfl, by kernel_rfl, by kernel_rfl, by kernel_rfl, by kernel_rfl, by kernel_rfl, by kernel_rfl⟩, (by repeat' first | exact trivial | exact rfl | kernel_rfl | exact Dle.of_eq rfl | exact MLe.of_eq rfl | exact Dle.i (by omega) | exact Dle.i (by simp only [Int.toNat_natCast] at *; omega) | exact Dle.nil | exact Dle.rc Dle.nil | exact Option.some_ne_none _ | exact Or.inl rfl | exact Or.inr trivial | omega | (simp only [Int.toNat_natCast] at *; omega) | (intro _ _ _ _; exact Dle.of_eq rfl) | refine And.intro ?_ ?_)⟩⟩, fun k hk => ?_⟩
  obtain ⟨hk, hkl, hK, hz⟩ := hk
  by_cases hlt : k.1 < s.size
  · have e0 : ((bAt s ((k.1 : Int)).toNat).toNat : Int) = at_ s k.1 := rfl
    have e7 : ((k.1 : Int) + 1).toNat = k.1 + 1 := by omega
    have c1 := commentEnd_sp E hML s hs sc k.1 hk
    have c3 := isWord7_sp E s sc k.1 hlt
    have hce := ce_cm (s := s) (sc := sc) hlt
    have hlen : ∀ (t : Tk) {p : Nat}, k.1 < p → (k.2 ++ [t]).length ≤ p := fun t p hp => by rw [List.length_append]; show _ + 1 ≤ _; omega
    have hl1 : ∀ t : Tk, k.2.length + 1 = (k.2 ++ [t]).length := fun t => by simp
    by_cases hbl : badB (at_ s k.1) = false ∧ (blkB (at_ s k.1) = true ∨ 0 ≤ cmE s sc k.1)
    · obtain ⟨hb, hbl⟩ := hbl
      have hB : BlI s sc k.1 k.2 z r k.1 := .inl ⟨okR_nil, hK.trans (dv_blank hlt hb hbl)⟩
      cases hk0 : blkB (at_ s k.1)
      · have hx := blk_no hk0
        have hne : ceE s sc k.1 ≠ 0 := by
          have h1 : 0 ≤ cmE s sc k.1 := hbl.resolve_left (by rw [hk0]; decide)
          have h2 := hce.2.1
          have h3 := hce.2.2 h1
          omega
        generalize ceE s sc k.1 = y at c1 hne
        clear hce
        repeat' first
          | (refine facW_intro ?_; intro _)
          | refine Or.inl ?_
          | ((conv => whnf); first | (refine condW_dec ?_ ?_ <;> intro _ <;> try (exfalso; omega)) | refine condW_not ?_ | (refine condW_bool ?_ ?_ <;> intro _ <;> try (exfalso; omega)) | (refine nbC_t (fun _ => ?_) ?_) | (refine nbC_f ?_ (fun _ => ?_)))
          | refine And.intro (by first | omega | (simp only [Int.toNat_natCast] at *; omega) | (simp only [Nat.reduceAdd, Int.cast_ofNat_Int, true_and, and_true]; omega) | kernel_rfl) ?_
          | refine RegW.run ?_
          | refine ⟨_, c1, ?_⟩
          | fail
        all_goals try (exfalso; omega)
        refine ⟨Nat, fun p => [(9, i64 p)], fun p => [], [16], fun p => [], fun p => k.1 ≤ p ∧ p ≤ s.size ∧ BlI s sc k.1 k.2 z r p, fun p => s.size - p, ⟨k.1, ⟨Nat.le_refl _, hk, hB⟩, ⟨[], ⟨by kernel_rfl, by kernel_rfl, by kernel_rfl, by kernel_rfl, by kernel_rfl, by kernel_rfl, by kernel_rfl⟩, (by repeat' first | exact trivial | exact rfl | kernel_rfl | exact Dle.of_eq rfl | exact MLe.of_eq rfl | exact Dle.i (by omega) | exact Dle.i (by simp only [Int.toNat_natCast] at *; omega) | exact Dle.nil | exact Dle.rc Dle.nil | exact Option.some_ne_none _ | exact Or.inl rfl | exact Or.inr trivial | omega | (simp only [Int.toNat_natCast] at *; omega) | (intro _ _ _ _; exact Dle.of_eq rfl) | refine And.intro ?_ ?_)⟩⟩, fun p hp => ?_⟩
        obtain ⟨hp1, hp2, hP⟩ := hp
        by_cases hpl : p < s.size
        · have c2 := commentEnd_sp E hML s hs sc p hp2
          have e1 : ((bAt s ((p : Int)).toNat).toNat : Int) = at_ s p := rfl
          have hce := ce_cm (s := s) (sc := sc) hpl
          have hcm := cmE_ok s sc p hpl
          cases hkp : blkB (at_ s p)
          · have hx := blk_no hkp
            by_cases hc0 : cmE s sc p < 0
            · rw [hce.1 hc0] at c2
              have hbp : k.1 < p := by
                rcases Nat.lt_or_ge k.1 p with h | h
                · exact h
                · exfalso
                  obtain rfl : p = k.1 := by omega
                  rcases hbl with h | h
                  · rw [hkp] at h; cases h
                  · omega
              have hD := hP.done hbp hp2 hz (fun _ => ⟨hkp, hc0⟩)
              rcases hD with ⟨hz0, hzj, hr2⟩ | ⟨hnz, hzz, hr2⟩
              · repeat' first
                  | (refine facW_intro ?_; intro _)
                  | refine Or.inl ?_
                  | ((conv => whnf); first | (refine condW_dec ?_ ?_ <;> intro _ <;> try (exfalso; omega)) | refine condW_not ?_ | (refine condW_bool ?_ ?_ <;> intro _ <;> try (exfalso; omega)) | (refine nbC_t (fun _ => ?_) ?_) | (refine nbC_f ?_ (fun _ => ?_)))
                  | refine And.intro (by first | omega | (simp only [Int.toNat_natCast] at *; omega) | (simp only [Nat.reduceAdd, Int.cast_ofNat_Int, true_and, and_true]; omega) | kernel_rfl) ?_
                  | refine RegW.run ?_
                  | refine ⟨_, c2, ?_⟩
                  | fail
                all_goals first
                  | (exfalso; rename_i h; exact h rfl)
                  | exact dle_errP E hr2
                  | (exfalso; omega)
                  | trace_state
              · repeat' first
                  | (refine facW_intro ?_; intro _)
                  | refine Or.inl ?_
                  | ((conv => whnf); first | (refine condW_dec ?_ ?_ <;> intro _ <;> try (exfalso; omega)) | refine condW_not ?_ | (refine condW_bool ?_ ?_ <;> intro _ <;> try (exfalso; omega)) | (refine nbC_t (fun _ => ?_) ?_) | (refine nbC_f ?_ (fun _ => ?_)))
                  | refine And.intro (by first | omega | (simp only [Int.toNat_natCast] at *; omega) | (simp only [Nat.reduceAdd, Int.cast_ofNat_Int, true_and, and_true]; omega) | kernel_rfl) ?_
                  | refine RegW.run ?_
                  | refine ⟨_, c2, ?_⟩
                  | fail
                all_goals first
                  | (exfalso; rename_i h; exact h rfl)
                  | exact ⟨(p, k.2 ++ [tkOf s 4 k.1 p]), ⟨by omega, hlen _ (by omega), hr2, hzz⟩, ⟨[(16, some 142)], ⟨by kernel_rfl, by kernel_rfl, by kernel_rfl, by kernel_rfl, by kernel_rfl, by kernel_rfl, by kernel_rfl⟩, (by repeat' first | (exact hl1 _) | exact trivial | exact rfl | kernel_rfl | exact Dle.of_eq rfl | exact MLe.of_eq rfl | exact Dle.i (by omega) | exact Dle.i (by simp only [Int.toNat_natCast] at *; omega) | exact Dle.nil | exact Dle.rc Dle.nil | exact Option.some_ne_none _ | exact Or.inl rfl | exact Or.inr trivial | omega | (simp only [Int.toNat_natCast] at *; omega) | (intro _ _ _ _; exact Dle.of_eq rfl) | (intro i j hi hj; exact row_p2 E k.2 (tkOf s 4 k.1 p) _ (by first | rfl | (rw [e7]; rfl)) i j (by omega) hj) | refine And.intro ?_ ?_)⟩, by first | omega | (dsimp only; omega)⟩
                  | (exfalso; omega)
                  | trace_state
            · by_cases hc1 : (s.size : Int) < cmE s sc p
              · rw [hce.2.1 hc1] at c2
                rcases hP.open_ hp1 hpl hz hkp hc1 with ⟨hz0, hzp, hr2⟩ | ⟨hnz, hr2⟩
                · have f1 := fault7_a E z p 8 hz0 hzp
                  repeat' first
                    | (refine facW_intro ?_; intro _)
                    | refine Or.inl ?_
                    | ((conv => whnf); first | (refine condW_dec ?_ ?_ <;> intro _ <;> try (exfalso; omega)) | refine condW_not ?_ | (refine condW_bool ?_ ?_ <;> intro _ <;> try (exfalso; omega)) | (refine nbC_t (fun _ => ?_) ?_) | (refine nbC_f ?_ (fun _ => ?_)))
                    | refine And.intro (by first | omega | (simp only [Int.toNat_natCast] at *; omega) | (simp only [Nat.reduceAdd, Int.cast_ofNat_Int, true_and, and_true]; omega) | kernel_rfl) ?_
                    | refine RegW.run ?_
                    | refine ⟨_, c2, ?_⟩
                    | refine ⟨_, f1, ?_⟩
                    | fail
                  all_goals first
                    | (exfalso; rename_i h; exact h rfl)
                    | exact dle_errP E hr2
                    | (exfalso; omega)
                    | trace_state
                · have f1 := fault7_b E z p 8 hnz
                  repeat' first
                    | (refine facW_intro ?_; intro _)
                    | refine Or.inl ?_
                    | ((conv => whnf); first | (refine condW_dec ?_ ?_ <;> intro _ <;> try (exfalso; omega)) | refine condW_not ?_ | (refine condW_bool ?_ ?_ <;> intro _ <;> try (exfalso; omega)) | (refine nbC_t (fun _ => ?_) ?_) | (refine nbC_f ?_ (fun _ => ?_)))
                    | refine And.intro (by first | omega | (simp only [Int.toNat_natCast] at *; omega) | (simp only [Nat.reduceAdd, Int.cast_ofNat_Int, true_and, and_true]; omega) | kernel_rfl) ?_
                    | refine RegW.run ?_
                    | refine ⟨_, c2, ?_⟩
                    | refine ⟨_, f1, ?_⟩
                    | fail
                  all_goals first
                    | (exfalso; rename_i h; exact h rfl)
                    | exact dle_errP E hr2
                    | (exfalso; omega)
                    | trace_state
              · obtain ⟨n, hn⟩ := Int.eq_ofNat_of_zero_le (show 0 ≤ cmE s sc p by omega)
                obtain ⟨g1, g2⟩ := hce.2.2 (by omega) (by omega)
                rw [g1, hn] at c2
                have hP2 := hP.comment hp1 hpl hz hkp hn (by omega) (by omega)
                repeat' first
                  | (refine facW_intro ?_; intro _)
                  | refine Or.inl ?_
                  | ((conv => whnf); first | (refine condW_dec ?_ ?_ <;> intro _ <;> try (exfalso; omega)) | refine condW_not ?_ | (refine condW_bool ?_ ?_ <;> intro _ <;> try (exfalso; omega)) | (refine nbC_t (fun _ => ?_) ?_) | (refine nbC_f ?_ (fun _ => ?_)))
                  | refine And.intro (by first | omega | (simp only [Int.toNat_natCast] at *; omega) | (simp only [Nat.reduceAdd, Int.cast_ofNat_Int, true_and, and_true]; omega) | kernel_rfl) ?_
                  | refine RegW.run ?_
                  | refine ⟨_, c2, ?_⟩
                  | fail
                all_goals first
                  | (exfalso; rename_i h; exact h rfl)
                  | exact ⟨n, ⟨by omega, by omega, hP2⟩, ⟨[], ⟨by kernel_rfl, by kernel_rfl, by kernel_rfl, by kernel_rfl, by kernel_rfl, by kernel_rfl, by kernel_rfl⟩, (by repeat' first | exact trivial | exact rfl | kernel_rfl | exact Dle.of_eq rfl | exact MLe.of_eq rfl | exact Dle.i (by omega) | exact Dle.i (by simp only [Int.toNat_natCast] at *; omega) | exact Dle.nil | exact Dle.rc Dle.nil | exact Option.some_ne_none _ | exact Or.inl rfl | exact Or.inr trivial | omega | (simp only [Int.toNat_natCast] at *; omega) | (intro _ _ _ _; exact Dle.of_eq rfl) | refine And.intro ?_ ?_)⟩, by first | omega | (dsimp only; omega)⟩
                  | (exfalso; omega)
                  | trace_state
          · have hx := blk_yes hkp
            have hP2 := hP.blank hpl hkp
            repeat' first
              | (refine facW_intro ?_; intro _)
              | refine Or.inl ?_
              | ((conv => whnf); first | (refine condW_dec ?_ ?_ <;> intro _ <;> try (exfalso; omega)) | refine condW_not ?_ | (refine condW_bool ?_ ?_ <;> intro _ <;> try (exfalso; omega)) | (refine nbC_t (fun _ => ?_) ?_) | (refine nbC_f ?_ (fun _ => ?_)))
              | refine And.intro (by first | omega | (simp only [Int.toNat_natCast] at *; omega) | (simp only [Nat.reduceAdd, Int.cast_ofNat_Int, true_and, and_true]; omega) | kernel_rfl) ?_
              | refine RegW.run ?_
              | refine ⟨_, c2, ?_⟩
              | fail
            all_goals first
              | (exfalso; rename_i h; exact h rfl)
              | exact ⟨p + 1, ⟨by omega, by omega, hP2⟩, ⟨[], ⟨by kernel_rfl, by kernel_rfl, by kernel_rfl, by kernel_rfl, by kernel_rfl, by kernel_rfl, by kernel_rfl⟩, (by repeat' first | exact trivial | exact rfl | kernel_rfl | exact Dle.of_eq rfl | exact MLe.of_eq rfl | exact Dle.i (by omega) | exact Dle.i (by simp only [Int.toNat_natCast] at *; omega) | exact Dle.nil | exact Dle.rc Dle.nil | exact Option.some_ne_none _ | exact Or.inl rfl | exact Or.inr trivial | omega | (simp only [Int.toNat_natCast] at *; omega) | (intro _ _ _ _; exact Dle.of_eq rfl) | refine And.intro ?_ ?_)⟩, by first | omega | (dsimp only; omega)⟩
              | (exfalso; omega)
              | trace_state
        · have hD := hP.done (by omega) hp2 hz (fun h => absurd h hpl)
          rcases hD with ⟨hz0, hzj, hr2⟩ | ⟨hnz, hzz, hr2⟩
          · repeat' first
              | (refine facW_intro ?_; intro _)
              | refine Or.inl ?_
              | ((conv => whnf); first | (refine condW_dec ?_ ?_ <;> intro _ <;> try (exfalso; omega)) | refine condW_not ?_ | (refine condW_bool ?_ ?_ <;> intro _ <;> try (exfalso; omega)) | (refine nbC_t (fun _ => ?_) ?_) | (refine nbC_f ?_ (fun _ => ?_)))
              | refine And.intro (by first | omega | (simp only [Int.toNat_natCast] at *; omega) | (simp only [Nat.reduceAdd, Int.cast_ofNat_Int, true_and, and_true]; omega) | kernel_rfl) ?_
              | refine RegW.run ?_
              | refine ⟨_, c1, ?_⟩
              | fail
            all_goals first
              | (exfalso; rename_i h; exact h rfl)
              | exact dle_errP E hr2
              | (exfalso; omega)
              | trace_state
          · repeat' first
              | (refine facW_intro ?_; intro _)
              | refine Or.inl ?_
              | ((conv => whnf); first | (refine condW_dec ?_ ?_ <;> intro _ <;> try (exfalso; omega)) | refine condW_not ?_ | (refine condW_bool ?_ ?_ <;> intro _ <;> try (exfalso; omega)) | (refine nbC_t (fun _ => ?_) ?_) | (refine nbC_f ?_ (fun _ => ?_)))
              | refine And.intro (by first | omega | (simp only [Int.toNat_natCast] at *; omega) | (simp only [Nat.reduceAdd, Int.cast_ofNat_Int, true_and, and_true]; omega) | kernel_rfl) ?_
              | refine RegW.run ?_
              | refine ⟨_, c1, ?_⟩
              | fail
            all_goals first
              | (exfalso; rename_i h; exact h rfl)
              | exact ⟨(p, k.2 ++ [tkOf s 4 k.1 p]), ⟨by omega, hlen _ (by omega), hr2, hzz⟩, ⟨[(16, some 142)], ⟨by kernel_rfl, by kernel_rfl, by kernel_rfl, by kernel_rfl, by kernel_rfl, by kernel_rfl, by kernel_rfl⟩, (by repeat' first | (exact hl1 _) | exact trivial | exact rfl | kernel_rfl | exact Dle.of_eq rfl | exact MLe.of_eq rfl | exact Dle.i (by omega) | exact Dle.i (by simp only [Int.toNat_natCast] at *; omega) | exact Dle.nil | exact Dle.rc Dle.nil | exact Option.some_ne_none _ | exact Or.inl rfl | exact Or.inr trivial | omega | (simp only [Int.toNat_natCast] at *; omega) | (intro _ _ _ _; exact Dle.of_eq rfl) | (intro i j hi hj; exact row_p2 E k.2 (tkOf s 4 k.1 p) _ (by first | rfl | (rw [e7]; rfl)) i j (by omega) hj) | refine And.intro ?_ ?_)⟩, by first | omega | (dsimp only; omega)⟩
              | (exfalso; omega)
              | trace_state
      · have hx := blk_yes hk0
        clear hce
        repeat' first
          | (refine facW_intro ?_; intro _)
          | refine Or.inl ?_
          | ((conv => whnf); first | (refine condW_dec ?_ ?_ <;> intro _ <;> try (exfalso; omega)) | refine condW_not ?_ | (refine condW_bool ?_ ?_ <;> intro _ <;> try (exfalso; omega)) | (refine nbC_t (fun _ => ?_) ?_) | (refine nbC_f ?_ (fun _ => ?_)))
          | refine And.intro (by first | omega | (simp only [Int.toNat_natCast] at *; omega) | (simp only [Nat.reduceAdd, Int.cast_ofNat_Int, true_and, and_true]; omega) | kernel_rfl) ?_
          | refine RegW.run ?_
          | refine ⟨_, c1, ?_⟩
          | fail
        all_goals try (exfalso; omega)
        all_goals
          refine ⟨Nat, fun p => [(9, i64 p)], fun p => [], [16], fun p => [], fun p => k.1 ≤ p ∧ p ≤ s.size ∧ BlI s sc k.1 k.2 z r p, fun p => s.size - p, ⟨k.1, ⟨Nat.le_refl _, hk, hB⟩, ⟨[], ⟨by kernel_rfl, by kernel_rfl, by kernel_rfl, by kernel_rfl, by kernel_rfl, by kernel_rfl, by kernel_rfl⟩, (by repeat' first | exact trivial | exact rfl | kernel_rfl | exact Dle.of_eq rfl | exact MLe.of_eq rfl | exact Dle.i (by omega) | exact Dle.i (by simp only [Int.toNat_natCast] at *; omega) | exact Dle.nil | exact Dle.rc Dle.nil | exact Option.some_ne_none _ | exact Or.inl rfl | exact Or.inr trivial | omega | (simp only [Int.toNat_natCast] at *; omega) | (intro _ _ _ _; exact Dle.of_eq rfl) | refine And.intro ?_ ?_)⟩⟩, fun p hp => ?_⟩
          obtain ⟨hp1, hp2, hP⟩ := hp
          by_cases hpl : p < s.size
          · have c2 := commentEnd_sp E hML s hs sc p hp2
            have e1 : ((bAt s ((p : Int)).toNat).toNat : Int) = at_ s p := rfl
            have hce := ce_cm (s := s) (sc := sc) hpl
            have hcm := cmE_ok s sc p hpl
            cases hkp : blkB (at_ s p)
            · have hx := blk_no hkp
              by_cases hc0 : cmE s sc p < 0
              · rw [hce.1 hc0] at c2
                have hbp : k.1 < p := by
                  rcases Nat.lt_or_ge k.1 p with h | h
                  · exact h
                  · exfalso
                    obtain rfl : p = k.1 := by omega
                    rcases hbl with h | h
                    · rw [hkp] at h; cases h
                    · omega
                have hD := hP.done hbp hp2 hz (fun _ => ⟨hkp, hc0⟩)
                rcases hD with ⟨hz0, hzj, hr2⟩ | ⟨hnz, hzz, hr2⟩
                · repeat' first
                    | (refine facW_intro ?_; intro _)
                    | refine Or.inl ?_
                    | ((conv => whnf); first | (refine condW_dec ?_ ?_ <;> intro _ <;> try (exfalso; omega)) | refine condW_not ?_ | (refine condW_bool ?_ ?_ <;> intro _ <;> try (exfalso; omega)) | (refine nbC_t (fun _ => ?_) ?_) | (refine nbC_f ?_ (fun _ => ?_)))
                    | refine And.intro (by first | omega | (simp only [Int.toNat_natCast] at *; omega) | (simp only [Nat.reduceAdd, Int.cast_ofNat_Int, true_and, and_true]; omega) | kernel_rfl) ?_
                    | refine RegW.run ?_
                    | refine ⟨_, c2, ?_⟩
                    | fail
                  all_goals first
                    | (exfalso; rename_i h; exact h rfl)
                    | exact dle_errP E hr2
                    | (exfalso; omega)
                    | trace_state
                · repeat' first
                    | (refine facW_intro ?_; intro _)
                    | refine Or.inl ?_
                    | ((conv => whnf); first | (refine condW_dec ?_ ?_ <;> intro _ <;> try (exfalso; omega)) | refine condW_not ?_ | (refine condW_bool ?_ ?_ <;> intro _ <;> try (exfalso; omega)) | (refine nbC_t (fun _ => ?_) ?_) | (refine nbC_f ?_ (fun _ => ?_)))
                    | refine And.intro (by first | omega | (simp only [Int.toNat_natCast] at *; omega) | (simp only [Nat.reduceAdd, Int.cast_ofNat_Int, true_and, and_true]; omega) | kernel_rfl) ?_
                    | refine RegW.run ?_
                    | refine ⟨_, c2, ?_⟩
                    | fail
                  all_goals first
                    | (exfalso; rename_i h; exact h rfl)
                    | exact ⟨(p, k.2 ++ [tkOf s 4 k.1 p]), ⟨by omega, hlen _ (by omega), hr2, hzz⟩, ⟨[(16, some 142)], ⟨by kernel_rfl, by kernel_rfl, by kernel_rfl, by kernel_rfl, by kernel_rfl, by kernel_rfl, by kernel_rfl⟩, (by repeat' first | (exact hl1 _) | exact trivial | exact rfl | kernel_rfl | exact Dle.of_eq rfl | exact MLe.of_eq rfl | exact Dle.i (by omega) | exact Dle.i (by simp only [Int.toNat_natCast] at *; omega) | exact Dle.nil | exact Dle.rc Dle.nil | exact Option.some_ne_none _ | exact Or.inl rfl | exact Or.inr trivial | omega | (simp only [Int.toNat_natCast] at *; omega) | (intro _ _ _ _; exact Dle.of_eq rfl) | (intro i j hi hj; exact row_p2 E k.2 (tkOf s 4 k.1 p) _ (by first | rfl | (rw [e7]; rfl)) i j (by omega) hj) | refine And.intro ?_ ?_)⟩, by first | omega | (dsimp only; omega)⟩
                    | (exfalso; omega)
                    | trace_state
              · by_cases hc1 : (s.size : Int) < cmE s sc p
                · rw [hce.2.1 hc1] at c2
                  rcases hP.open_ hp1 hpl hz hkp hc1 with ⟨hz0, hzp, hr2⟩ | ⟨hnz, hr2⟩
                  · have f1 := fault7_a E z p 8 hz0 hzp
                    repeat' first
                      | (refine facW_intro ?_; intro _)
                      | refine Or.inl ?_
                      | ((conv => whnf); first | (refine condW_dec ?_ ?_ <;> intro _ <;> try (exfalso; omega)) | refine condW_not ?_ | (refine condW_bool ?_ ?_ <;> intro _ <;> try (exfalso; omega)) | (refine nbC_t (fun _ => ?_) ?_) | (refine nbC_f ?_ (fun _ => ?_)))
                      | refine And.intro (by first | omega | (simp only [Int.toNat_natCast] at *; omega) | (simp only [Nat.reduceAdd, Int.cast_ofNat_Int, true_and, and_true]; omega) | kernel_rfl) ?_
                      | refine RegW.run ?_
                      | refine ⟨_, c2, ?_⟩
                      | refine ⟨_, f1, ?_⟩
                      | fail
                    all_goals first
                      | (exfalso; rename_i h; exact h rfl)
                      | exact dle_errP E hr2
                      | (exfalso; omega)
                      | trace_state
                  · have f1 := fault7_b E z p 8 hnz
                    repeat' first
                      | (refine facW_intro ?_; intro _)
                      | refine Or.inl ?_
                      | ((conv => whnf); first | (refine condW_dec ?_ ?_ <;> intro _ <;> try (exfalso; omega)) | refine condW_not ?_ | (refine condW_bool ?_ ?_ <;> intro _ <;> try (exfalso; omega)) | (refine nbC_t (fun _ => ?_) ?_) | (refine nbC_f ?_ (fun _ => ?_)))
                      | refine And.intro (by first | omega | (simp only [Int.toNat_natCast] at *; omega) | (simp only [Nat.reduceAdd, Int.cast_ofNat_Int, true_and, and_true]; omega) | kernel_rfl) ?_
                      | refine RegW.run ?_
                      | refine ⟨_, c2, ?_⟩
                      | refine ⟨_, f1, ?_⟩
                      | fail
                    all_goals first
                      | (exfalso; rename_i h; exact h rfl)
                      | exact dle_errP E hr2
                      | (exfalso; omega)
                      | trace_state
                · obtain ⟨n, hn⟩ := Int.eq_ofNat_of_zero_le (show 0 ≤ cmE s sc p by omega)
                  obtain ⟨g1, g2⟩ := hce.2.2 (by omega) (by omega)
                  rw [g1, hn] at c2
                  have hP2 := hP.comment hp1 hpl hz hkp hn (by omega) (by omega)
                  repeat' first
                    | (refine facW_intro ?_; intro _)
                    | refine Or.inl ?_
                    | ((conv => whnf); first | (refine condW_dec ?_ ?_ <;> intro _ <;> try (exfalso; omega)) | refine condW_not ?_ | (refine condW_bool ?_ ?_ <;> intro _ <;> try (exfalso; omega)) | (refine nbC_t (fun _ => ?_) ?_) | (refine nbC_f ?_ (fun _ => ?_)))
                    | refine And.intro (by first | omega | (simp only [Int.toNat_natCast] at *; omega) | (simp only [Nat.reduceAdd, Int.cast_ofNat_Int, true_and, and_true]; omega) | kernel_rfl) ?_
                    | refine RegW.run ?_
                    | refine ⟨_, c2, ?_⟩
                    | fail
                  all_goals first
                    | (exfalso; rename_i h; exact h rfl)
                    | exact ⟨n, ⟨by omega, by omega, hP2⟩, ⟨[], ⟨by kernel_rfl, by kernel_rfl, by kernel_rfl, by kernel_rfl, by kernel_rfl, by kernel_rfl, by kernel_rfl⟩, (by repeat' first | exact trivial | exact rfl | kernel_rfl | exact Dle.of_eq rfl | exact MLe.of_eq rfl | exact Dle.i (by omega) | exact Dle.i (by simp only [Int.toNat_natCast] at *; omega) | exact Dle.nil | exact Dle.rc Dle.nil | exact Option.some_ne_none _ | exact Or.inl rfl | exact Or.inr trivial | omega | (simp only [Int.toNat_natCast] at *; omega) | (intro _ _ _ _; exact Dle.of_eq rfl) | refine And.intro ?_ ?_)⟩, by first | omega | (dsimp only; omega)⟩
                    | (exfalso; omega)
                    | trace_state
            · have hx := blk_yes hkp
              have hP2 := hP.blank hpl hkp
              repeat' first
                | (refine facW_intro ?_; intro _)
                | refine Or.inl ?_
                | ((conv => whnf); first | (refine condW_dec ?_ ?_ <;> intro _ <;> try (exfalso; omega)) | refine condW_not ?_ | (refine condW_bool ?_ ?_ <;> intro _ <;> try (exfalso; omega)) | (refine nbC_t (fun _ => ?_) ?_) | (refine nbC_f ?_ (fun _ => ?_)))
                | refine And.intro (by first | omega | (simp only [Int.toNat_natCast] at *; omega) | (simp only [Nat.reduceAdd, Int.cast_ofNat_Int, true_and, and_true]; omega) | kernel_rfl) ?_
                | refine RegW.run ?_
                | refine ⟨_, c2, ?_⟩
                | fail
              all_goals first
                | (exfalso; rename_i h; exact h rfl)
                | exact ⟨p + 1, ⟨by omega, by omega, hP2⟩, ⟨[], ⟨by kernel_rfl, by kernel_rfl, by kernel_rfl, by kernel_rfl, by kernel_rfl, by kernel_rfl, by kernel_rfl⟩, (by repeat' first | exact trivial | exact rfl | kernel_rfl | exact Dle.of_eq rfl | exact MLe.of_eq rfl | exact Dle.i (by omega) | exact Dle.i (by simp only [Int.toNat_natCast] at *; omega) | exact Dle.nil | exact Dle.rc Dle.nil | exact Option.some_ne_none _ | exact Or.inl rfl | exact Or.inr trivial | omega | (simp only [Int.toNat_natCast] at *; omega) | (intro _ _ _ _; exact Dle.of_eq rfl) | refine And.intro ?_ ?_)⟩, by first | omega | (dsimp only; omega)⟩
                | (exfalso; omega)
                | trace_state
          · have hD := hP.done (by omega) hp2 hz (fun h => absurd h hpl)
            rcases hD with ⟨hz0, hzj, hr2⟩ | ⟨hnz, hzz, hr2⟩
            · repeat' first
                | (refine facW_intro ?_; intro _)
                | refine Or.inl ?_
                | ((conv => whnf); first | (refine condW_dec ?_ ?_ <;> intro _ <;> try (exfalso; omega)) | refine condW_not ?_ | (refine condW_bool ?_ ?_ <;> intro _ <;> try (exfalso; omega)) | (refine nbC_t (fun _ => ?_) ?_) | (refine nbC_f ?_ (fun _ => ?_)))
                | refine And.intro (by first | omega | (simp only [Int.toNat_natCast] at *; omega) | (simp only [Nat.reduceAdd, Int.cast_ofNat_Int, true_and, and_true]; omega) | kernel_rfl) ?_
                | refine RegW.run ?_
                | refine ⟨_, c1, ?_⟩
                | fail
              all_goals first
                | (exfalso; rename_i h; exact h rfl)
                | exact dle_errP E hr2
                | (exfalso; omega)
                | trace_state
            · repeat' first
                | (refine facW_intro ?_; intro _)
                | refine Or.inl ?_
                | ((conv => whnf); first | (refine condW_dec ?_ ?_ <;> intro _ <;> try (exfalso; omega)) | refine condW_not ?_ | (refine condW_bool ?_ ?_ <;> intro _ <;> try (exfalso; omega)) | (refine nbC_t (fun _ => ?_) ?_) | (refine nbC_f ?_ (fun _ => ?_)))
                | refine And.intro (by first | omega | (simp only [Int.toNat_natCast] at *; omega) | (simp only [Nat.reduceAdd, Int.cast_ofNat_Int, true_and, and_true]; omega) | kernel_rfl) ?_
                | refine RegW.run ?_
                | refine ⟨_, c1, ?_⟩
                | fail
              all_goals first
                | (exfalso; rename_i h; exact h rfl)
                | exact ⟨(p, k.2 ++ [tkOf s 4 k.1 p]), ⟨by omega, hlen _ (by omega), hr2, hzz⟩, ⟨[(16, some 142)], ⟨by kernel_rfl, by kernel_rfl, by kernel_rfl, by kernel_rfl, by kernel_rfl, by kernel_rfl, by kernel_rfl⟩, (by repeat' first | (exact hl1 _) | exact trivial | exact rfl | kernel_rfl | exact Dle.of_eq rfl | exact MLe.of_eq rfl | exact Dle.i (by omega) | exact Dle.i (by simp only [Int.toNat_natCast] at *; omega) | exact Dle.nil | exact Dle.rc Dle.nil | exact Option.some_ne_none _ | exact Or.inl rfl | exact Or.inr trivial | omega | (simp only [Int.toNat_natCast] at *; omega) | (intro _ _ _ _; exact Dle.of_eq rfl) | (intro i j hi hj; exact row_p2 E k.2 (tkOf s 4 k.1 p) _ (by first | rfl | (rw [e7]; rfl)) i j (by omega) hj) | refine And.intro ?_ ?_)⟩, by first | omega | (dsimp only; omega)⟩
                | (exfalso; omega)
                | trace_state
    · have hk0 : blkB (at_ s k.1) = false := by
        cases h : blkB (at_ s k.1)
        · rfl
        · exact absurd ⟨blk_good h, .inl h⟩ hbl
      have hy : cmE s sc k.1 < 0 := by
        cases h : badB (at_ s k.1)
        · rcases Int.lt_or_le (cmE s sc k.1) 0 with h2 | h2
          · exact h2
          · exact absurd ⟨h, .inr h2⟩ hbl
        · exact (bad_is h).2.2
      have hx := blk_no hk0
      rw [hce.1 hy] at c1
      clear hce hbl
      by_cases hq : at_ s k.1 = 34 ∨ at_ s k.1 = 39
      · have hb : badB (at_ s k.1) = false := by
          cases h : badB (at_ s k.1)
          · rfl
          · exact absurd hq (bad_is (sc := sc) h).2.1
        have hnx := nx_str (c := cmE) (sc := sc) hb hk0 hy hq
        have c4 := stringEnd_sp E s k.1 hlt hs hq
        rcases txt_or s (at_ s k.1) (k.1 + 1) with ht | ⟨m, ht, hm1, hm2⟩ <;> rw [ht] at hnx c4
        · rw [if_pos (by decide)] at hnx
          have hr2 := hK.trans (dv_no hlt hnx)
          have hzk := (okR_z (Nat.le_refl _) hk okR_nil hz).2
          have f1 := fault7_b E z k.1 8 (by omega)
          repeat' first
            | (refine facW_intro ?_; intro _)
            | refine Or.inl ?_
            | ((conv => whnf); first | (refine condW_dec ?_ ?_ <;> intro _ <;> try (exfalso; omega)) | refine condW_not ?_ | (refine condW_bool ?_ ?_ <;> intro _ <;> try (exfalso; omega)) | (refine nbC_t (fun _ => ?_) ?_) | (refine nbC_f ?_ (fun _ => ?_)))
            | refine And.intro (by first | omega | (simp only [Int.toNat_natCast] at *; omega) | (simp only [Nat.reduceAdd, Int.cast_ofNat_Int, true_and, and_true]; omega) | kernel_rfl) ?_
            | refine RegW.run ?_
            | refine ⟨_, c1, ?_⟩
            | refine ⟨_, c4, ?_⟩
            | refine ⟨_, f1, ?_⟩
            | fail
          all_goals first
            | (exfalso; rename_i h; exact h rfl)
            | exact dle_errP E hr2
            | (exfalso; omega)
            | trace_state
        · rw [if_neg (by omega), show ((m : Int)).toNat = m from rfl] at hnx
          have hp := chk_part (s := s) (i := k.1) hm2
          rw [← hz] at hp
          have hD : (0 ≤ z ∧ z < (m : Int) ∧ r = ⟨[], z, 9⟩) ∨ (¬ (0 ≤ z ∧ z < (m : Int)) ∧ z = chk s m s.size ∧ r = dv cmE s sc m (k.2 ++ [tkOf s 2 k.1 m])) := by
            by_cases hc : 0 ≤ chk s k.1 m
            · rw [if_pos hc] at hnx
              split at hp
              · rw [hp] at hnx hc
                exact .inl ⟨hc, by assumption, hK.trans (dv_no hlt hnx)⟩
              · omega
            · rw [if_neg hc] at hnx
              have g := okR_z (by omega) hm2 (chk_okR (by omega)) hz
              exact .inr ⟨by omega, g.1, hK.trans (dv_ok hlt hnx (by omega))⟩
          rcases hD with ⟨hz0, hzj, hr2⟩ | ⟨hnz, hzz, hr2⟩
          · repeat' first
              | (refine facW_intro ?_; intro _)
              | refine Or.inl ?_
              | ((conv => whnf); first | (refine condW_dec ?_ ?_ <;> intro _ <;> try (exfalso; omega)) | refine condW_not ?_ | (refine condW_bool ?_ ?_ <;> intro _ <;> try (exfalso; omega)) | (refine nbC_t (fun _ => ?_) ?_) | (refine nbC_f ?_ (fun _ => ?_)))
              | refine And.intro (by first | omega | (simp only [Int.toNat_natCast] at *; omega) | (simp only [Nat.reduceAdd, Int.cast_ofNat_Int, true_and, and_true]; omega) | kernel_rfl) ?_
              | refine RegW.run ?_
              | refine ⟨_, c1, ?_⟩
              | refine ⟨_, c4, ?_⟩
              | fail
            all_goals first
              | (exfalso; rename_i h; exact h rfl)
              | exact dle_errP E hr2
              | (exfalso; omega)
              | trace_state
          · repeat' first
              | (refine facW_intro ?_; intro _)
              | refine Or.inl ?_
              | ((conv => whnf); first | (refine condW_dec ?_ ?_ <;> intro _ <;> try (exfalso; omega)) | refine condW_not ?_ | (refine condW_bool ?_ ?_ <;> intro _ <;> try (exfalso; omega)) | (refine nbC_t (fun _ => ?_) ?_) | (refine nbC_f ?_ (fun _ => ?_)))
              | refine And.intro (by first | omega | (simp only [Int.toNat_natCast] at *; omega) | (simp only [Nat.reduceAdd, Int.cast_ofNat_Int, true_and, and_true]; omega) | kernel_rfl) ?_
              | refine RegW.run ?_
              | refine ⟨_, c1, ?_⟩
              | refine ⟨_, c4, ?_⟩
              | fail
            all_goals first
              | (exfalso; rename_i h; exact h rfl)
              | exact ⟨(m, k.2 ++ [tkOf s 2 k.1 m]), ⟨by omega, hlen _ (by omega), hr2, hzz⟩, ⟨[(16, some 142)], ⟨by kernel_rfl, by kernel_rfl, by kernel_rfl, by kernel_rfl, by kernel_rfl, by kernel_rfl, by kernel_rfl⟩, (by repeat' first | (exact hl1 _) | exact trivial | exact rfl | kernel_rfl | exact Dle.of_eq rfl | exact MLe.of_eq rfl | exact Dle.i (by omega) | exact Dle.i (by simp only [Int.toNat_natCast] at *; omega) | exact Dle.nil | exact Dle.rc Dle.nil | exact Option.some_ne_none _ | exact Or.inl rfl | exact Or.inr trivial | omega | (simp only [Int.toNat_natCast] at *; omega) | (intro _ _ _ _; exact Dle.of_eq rfl) | (intro i j hi hj; exact row_p2 E k.2 (tkOf s 2 k.1 m) _ (by first | rfl | (rw [e7]; rfl)) i j (by omega) hj) | refine And.intro ?_ ?_)⟩, by first | omega | (dsimp only; omega)⟩
              | (exfalso; omega)
              | trace_state
      · cases hw : refW s sc k.1 <;> rw [hw] at c3
        · have hbeg := refW_no hlt hw
          have hDM : (0 ≤ z ∧ z < ((k.1 + 1 : Nat) : Int) ∧ r = ⟨[], z, 9⟩) ∨ (¬ (0 ≤ z ∧ z < ((k.1 + 1 : Nat) : Int)) ∧ z = chk s (k.1 + 1) s.size ∧ r = dv cmE s sc (k.1 + 1) (k.2 ++ [tkOf s 3 k.1 (k.1 + 1)])) := by
            cases hb : badB (at_ s k.1)
            · have hmk : markB sc (at_ s k.1) = true := by
                unfold begB at hbeg
                rw [hk0, hb, decide_eq_false (show ¬ 0 ≤ cmE s sc k.1 by omega), decide_eq_false (show ¬ at_ s k.1 = 34 by omega), decide_eq_false (show ¬ at_ s k.1 = 39 by omega)] at hbeg
                simpa using hbeg
              have hnx := nx_mark (c := cmE) (sc := sc) hb hk0 hy hq hmk
              have g := okR_z (by omega) (by omega) (okR_one okR_nil hb) hz
              exact .inr ⟨by omega, g.1, hK.trans (dv_ok hlt hnx (by omega))⟩
            · have ez : z = k.1 := hz.trans (chk_bad hlt hb)
              exact .inl ⟨by omega, by omega, by rw [hK, dv_no hlt (nx_bad hb), ez]⟩
          have hD : (0 ≤ z ∧ z < ((k.1 + 1 : Nat) : Int) ∧ r = ⟨[], z, 9⟩) ∨ (¬ (0 ≤ z ∧ z < ((k.1 + 1 : Nat) : Int)) ∧ z = chk s (k.1 + 1) s.size ∧ r = dv cmE s sc (k.1 + 1) (k.2 ++ [tkOf s 3 k.1 (k.1 + 1)])) := hDM
          rcases hD with ⟨hz0, hzj, hr2⟩ | ⟨hnz, hzz, hr2⟩
          · repeat' first
              | (refine facW_intro ?_; intro _)
              | refine Or.inl ?_
              | ((conv => whnf); first | (refine condW_dec ?_ ?_ <;> intro _ <;> try (exfalso; omega)) | refine condW_not ?_ | (refine condW_bool ?_ ?_ <;> intro _ <;> try (exfalso; omega)) | (refine nbC_t (fun _ => ?_) ?_) | (refine nbC_f ?_ (fun _ => ?_)))
              | refine And.intro (by first | omega | (simp only [Int.toNat_natCast] at *; omega) | (simp only [Nat.reduceAdd, Int.cast_ofNat_Int, true_and, and_true]; omega) | kernel_rfl) ?_
              | refine RegW.run ?_
              | refine ⟨_, c1, ?_⟩
              | refine ⟨_, c3, ?_⟩
              | fail
            all_goals first
              | (exfalso; rename_i h; exact h rfl)
              | exact dle_errP E hr2
              | (exfalso; omega)
              | trace_state
          · repeat' first
              | (refine facW_intro ?_; intro _)
              | refine Or.inl ?_
              | ((conv => whnf); first | (refine condW_dec ?_ ?_ <;> intro _ <;> try (exfalso; omega)) | refine condW_not ?_ | (refine condW_bool ?_ ?_ <;> intro _ <;> try (exfalso; omega)) | (refine nbC_t (fun _ => ?_) ?_) | (refine nbC_f ?_ (fun _ => ?_)))
              | refine And.intro (by first | omega | (simp only [Int.toNat_natCast] at *; omega) | (simp only [Nat.reduceAdd, Int.cast_ofNat_Int, true_and, and_true]; omega) | kernel_rfl) ?_
              | refine RegW.run ?_
              | refine ⟨_, c1, ?_⟩
              | refine ⟨_, c3, ?_⟩
              | fail
            all_goals first
              | (exfalso; rename_i h; exact h rfl)
              | exact ⟨((k.1 + 1), k.2 ++ [tkOf s 3 k.1 (k.1 + 1)]), ⟨by omega, hlen _ (by omega), hr2, hzz⟩, ⟨[(16, some 142)], ⟨by kernel_rfl, by kernel_rfl, by kernel_rfl, by kernel_rfl, by kernel_rfl, by kernel_rfl, by kernel_rfl⟩, (by repeat' first | (exact hl1 _) | exact trivial | exact rfl | kernel_rfl | exact Dle.of_eq rfl | exact MLe.of_eq rfl | exact Dle.i (by omega) | exact Dle.i (by simp only [Int.toNat_natCast] at *; omega) | exact Dle.nil | exact Dle.rc Dle.nil | exact Option.some_ne_none _ | exact Or.inl rfl | exact Or.inr trivial | omega | (simp only [Int.toNat_natCast] at *; omega) | (intro _ _ _ _; exact Dle.of_eq rfl) | (intro i j hi hj; exact row_p2 E k.2 (tkOf s 3 k.1 (k.1 + 1)) _ (by first | rfl | (rw [e7]; rfl)) i j (by omega) hj) | refine And.intro ?_ ?_)⟩, by first | omega | (dsimp only; omega)⟩
              | (exfalso; omega)
              | trace_state
        · have hW : WdI s sc k.1 k.2 z r k.1 := .inl ⟨okR_nil, fun h => absurd h (Nat.lt_irrefl _)⟩
          have hbad : badB (at_ s k.1) = true → r = ⟨[], k.1, 9⟩ := fun hb => hK.trans (dv_no hlt (nx_bad hb))
          have h0 : badB (at_ s k.1) = false → r = dv cmE s sc (we cmE s sc (k.1 + 1)) (k.2 ++ [tkOf s 1 k.1 (we cmE s sc (k.1 + 1))]) := fun hb => by
            have hbeg := refW_beg hw hb
            have hmk : markB sc (at_ s k.1) = false := by
              unfold begB at hbeg
              simp only [Bool.or_eq_false_iff] at hbeg
              exact hbeg.2.2.2.1
            have hw2 := we_or (c := cmE) (s := s) (sc := sc) (i := k.1 + 1) (by omega)
            exact hK.trans (dv_ok hlt (nx_word (c := cmE) (sc := sc) hb hk0 hy hq hmk) (by omega))
          repeat' first
            | (refine facW_intro ?_; intro _)
            | refine Or.inl ?_
            | ((conv => whnf); first | (refine condW_dec ?_ ?_ <;> intro _ <;> try (exfalso; omega)) | refine condW_not ?_ | (refine condW_bool ?_ ?_ <;> intro _ <;> try (exfalso; omega)) | (refine nbC_t (fun _ => ?_) ?_) | (refine nbC_f ?_ (fun _ => ?_)))
            | refine And.intro (by first | omega | (simp only [Int.toNat_natCast] at *; omega) | (simp only [Nat.reduceAdd, Int.cast_ofNat_Int, true_and, and_true]; omega) | kernel_rfl) ?_
            | refine RegW.run ?_
            | refine ⟨_, c1, ?_⟩
            | refine ⟨_, c3, ?_⟩
            | fail
          all_goals try (exfalso; rename_i h; exact h rfl)
          all_goals try (exfalso; omega)
          refine ⟨Nat, fun p => [(9, i64 p)], fun p => [], [16], fun p => [], fun p => k.1 ≤ p ∧ p ≤ s.size ∧ WdI s sc k.1 k.2 z r p, fun p => s.size - p, ⟨k.1, ⟨Nat.le_refl _, hk, hW⟩, ⟨[], ⟨by kernel_rfl, by kernel_rfl, by kernel_rfl, by kernel_rfl, by kernel_rfl, by kernel_rfl, by kernel_rfl⟩, (by repeat' first | exact trivial | exact rfl | kernel_rfl | exact Dle.of_eq rfl | exact MLe.of_eq rfl | exact Dle.i (by omega) | exact Dle.i (by simp only [Int.toNat_natCast] at *; omega) | exact Dle.nil | exact Dle.rc Dle.nil | exact Option.some_ne_none _ | exact Or.inl rfl | exact Or.inr trivial | omega | (simp only [Int.toNat_natCast] at *; omega) | (intro _ _ _ _; exact Dle.of_eq rfl) | refine And.intro ?_ ?_)⟩⟩, fun p hp => ?_⟩
          obtain ⟨hp1, hp2, hP⟩ := hp
          by_cases hpl : p < s.size
          · have c2 := isWord7_sp E s sc p hpl
            cases hwp : refW s sc p <;> rw [hwp] at c2
            · have hbp : k.1 < p := by
                rcases Nat.lt_or_ge k.1 p with h | h
                · exact h
                · exfalso
                  obtain rfl : p = k.1 := by omega
                  rw [hw] at hwp; cases hwp
              have hD := hP.done hbp hp2 hz (fun _ => hwp)
              rcases hD with ⟨hz0, hzj, hr2⟩ | ⟨hnz, hzz, hr2⟩
              · repeat' first
                  | (refine facW_intro ?_; intro _)
                  | refine Or.inl ?_
                  | ((conv => whnf); first | (refine condW_dec ?_ ?_ <;> intro _ <;> try (exfalso; omega)) | refine condW_not ?_ | (refine condW_bool ?_ ?_ <;> intro _ <;> try (exfalso; omega)) | (refine nbC_t (fun _ => ?_) ?_) | (refine nbC_f ?_ (fun _ => ?_)))
                  | refine And.intro (by first | omega | (simp only [Int.toNat_natCast] at *; omega) | (simp only [Nat.reduceAdd, Int.cast_ofNat_Int, true_and, and_true]; omega) | kernel_rfl) ?_
                  | refine RegW.run ?_
                  | refine ⟨_, c2, ?_⟩
                  | fail
                all_goals first
                  | (exfalso; rename_i h; exact h rfl)
                  | exact dle_errP E hr2
                  | (exfalso; omega)
                  | trace_state
              · repeat' first
                  | (refine facW_intro ?_; intro _)
                  | refine Or.inl ?_
                  | ((conv => whnf); first | (refine condW_dec ?_ ?_ <;> intro _ <;> try (exfalso; omega)) | refine condW_not ?_ | (refine condW_bool ?_ ?_ <;> intro _ <;> try (exfalso; omega)) | (refine nbC_t (fun _ => ?_) ?_) | (refine nbC_f ?_ (fun _ => ?_)))
                  | refine And.intro (by first | omega | (simp only [Int.toNat_natCast] at *; omega) | (simp only [Nat.reduceAdd, Int.cast_ofNat_Int, true_and, and_true]; omega) | kernel_rfl) ?_
                  | refine RegW.run ?_
                  | refine ⟨_, c2, ?_⟩
                  | fail
                all_goals first
                  | (exfalso; rename_i h; exact h rfl)
                  | exact ⟨(p, k.2 ++ [tkOf s 1 k.1 p]), ⟨by omega, hlen _ (by omega), hr2, hzz⟩, ⟨[(16, some 142)], ⟨by kernel_rfl, by kernel_rfl, by kernel_rfl, by kernel_rfl, by kernel_rfl, by kernel_rfl, by kernel_rfl⟩, (by repeat' first | (exact hl1 _) | exact trivial | exact rfl | kernel_rfl | exact Dle.of_eq rfl | exact MLe.of_eq rfl | exact Dle.i (by omega) | exact Dle.i (by simp only [Int.toNat_natCast] at *; omega) | exact Dle.nil | exact Dle.rc Dle.nil | exact Option.some_ne_none _ | exact Or.inl rfl | exact Or.inr trivial | omega | (simp only [Int.toNat_natCast] at *; omega) | (intro _ _ _ _; exact Dle.of_eq rfl) | (intro i j hi hj; exact row_p2 E k.2 (tkOf s 1 k.1 p) _ (by first | rfl | (rw [e7]; rfl)) i j (by omega) hj) | refine And.intro ?_ ?_)⟩, by first | omega | (dsimp only; omega)⟩
                  | (exfalso; omega)
                  | trace_state
            · have hP2 := hP.step hp1 hpl hz hwp hbad h0
              repeat' first
                | (refine facW_intro ?_; intro _)
                | refine Or.inl ?_
                | ((conv => whnf); first | (refine condW_dec ?_ ?_ <;> intro _ <;> try (exfalso; omega)) | refine condW_not ?_ | (refine condW_bool ?_ ?_ <;> intro _ <;> try (exfalso; omega)) | (refine nbC_t (fun _ => ?_) ?_) | (refine nbC_f ?_ (fun _ => ?_)))
                | refine And.intro (by first | omega | (simp only [Int.toNat_natCast] at *; omega) | (simp only [Nat.reduceAdd, Int.cast_ofNat_Int, true_and, and_true]; omega) | kernel_rfl) ?_
                | refine RegW.run ?_
                | refine ⟨_, c2, ?_⟩
                | fail
              all_goals first
                | (exfalso; rename_i h; exact h rfl)
                | exact ⟨p + 1, ⟨by omega, by omega, hP2⟩, ⟨[], ⟨by kernel_rfl, by kernel_rfl, by kernel_rfl, by kernel_rfl, by kernel_rfl, by kernel_rfl, by kernel_rfl⟩, (by repeat' first | exact trivial | exact rfl | kernel_rfl | exact Dle.of_eq rfl | exact MLe.of_eq rfl | exact Dle.i (by omega) | exact Dle.i (by simp only [Int.toNat_natCast] at *; omega) | exact Dle.nil | exact Dle.rc Dle.nil | exact Option.some_ne_none _ | exact Or.inl rfl | exact Or.inr trivial | omega | (simp only [Int.toNat_natCast] at *; omega) | (intro _ _ _ _; exact Dle.of_eq rfl) | refine And.intro ?_ ?_)⟩, by first | omega | (dsimp only; omega)⟩
                | (exfalso; omega)
                | trace_state
          · have hD := hP.done (by omega) hp2 hz (fun h => absurd h hpl)
            rcases hD with ⟨hz0, hzj, hr2⟩ | ⟨hnz, hzz, hr2⟩
            · repeat' first
                | (refine facW_intro ?_; intro _)
                | refine Or.inl ?_
                | ((conv => whnf); first | (refine condW_dec ?_ ?_ <;> intro _ <;> try (exfalso; omega)) | refine condW_not ?_ | (refine condW_bool ?_ ?_ <;> intro _ <;> try (exfalso; omega)) | (refine nbC_t (fun _ => ?_) ?_) | (refine nbC_f ?_ (fun _ => ?_)))
                | refine And.intro (by first | omega | (simp only [Int.toNat_natCast] at *; omega) | (simp only [Nat.reduceAdd, Int.cast_ofNat_Int, true_and, and_true]; omega) | kernel_rfl) ?_
                | refine RegW.run ?_
                | refine ⟨_, c1, ?_⟩
                | fail
              all_goals first
                | (exfalso; rename_i h; exact h rfl)
                | exact dle_errP E hr2
                | (exfalso; omega)
                | trace_state
            · repeat' first
                | (refine facW_intro ?_; intro _)
                | refine Or.inl ?_
                | ((conv => whnf); first | (refine condW_dec ?_ ?_ <;> intro _ <;> try (exfalso; omega)) | refine condW_not ?_ | (refine condW_bool ?_ ?_ <;> intro _ <;> try (exfalso; omega)) | (refine nbC_t (fun _ => ?_) ?_) | (refine nbC_f ?_ (fun _ => ?_)))
                | refine And.intro (by first | omega | (simp only [Int.toNat_natCast] at *; omega) | (simp only [Nat.reduceAdd, Int.cast_ofNat_Int, true_and, and_true]; omega) | kernel_rfl) ?_
                | refine RegW.run ?_
                | refine ⟨_, c1, ?_⟩
                | fail
              all_goals first
                | (exfalso; rename_i h; exact h rfl)
                | exact ⟨(p, k.2 ++ [tkOf s 1 k.1 p]), ⟨by omega, hlen _ (by omega), hr2, hzz⟩, ⟨[(16, some 142)], ⟨by kernel_rfl, by kernel_rfl, by kernel_rfl, by kernel_rfl, by kernel_rfl, by kernel_rfl, by kernel_rfl⟩, (by repeat' first | (exact hl1 _) | exact trivial | exact rfl | kernel_rfl | exact Dle.of_eq rfl | exact MLe.of_eq rfl | exact Dle.i (by omega) | exact Dle.i (by simp only [Int.toNat_natCast] at *; omega) | exact Dle.nil | exact Dle.rc Dle.nil | exact Option.some_ne_none _ | exact Or.inl rfl | exact Or.inr trivial | omega | (simp only [Int.toNat_natCast] at *; omega) | (intro _ _ _ _; exact Dle.of_eq rfl) | (intro i j hi hj; exact row_p2 E k.2 (tkOf s 1 k.1 p) _ (by first | rfl | (rw [e7]; rfl)) i j (by omega) hj) | refine And.intro ?_ ?_)⟩, by first | omega | (dsimp only; omega)⟩
                | (exfalso; omega)
                | trace_state
  · have hr2 := hK.trans (dv_end hlt)
    subst hr2
    repeat' first
      | (refine facW_intro ?_; intro _)
      | refine Or.inl ?_
      | ((conv => whnf); first | (refine condW_dec ?_ ?_ <;> intro _ <;> try (exfalso; omega)) | refine condW_not ?_ | (refine condW_bool ?_ ?_ <;> intro _ <;> try (exfalso; omega)) | (refine nbC_t (fun _ => ?_) ?_) | (refine nbC_f ?_ (fun _ => ?_)))
      | refine And.intro (by first | omega | (simp only [Int.toNat_natCast] at *; omega) | (simp only [Nat.reduceAdd, Int.cast_ofNat_Int, true_and, and_true]; omega) | kernel_rfl) ?_
      | refine RegW.run ?_
      | fail
    all_goals first
      | exact Dle.refl _ _
      | trace_state
end
end tk
end Go.Proofs.Ytiiohopjkepkgaa
