/-
  Neighbours in an order: the law's walk.
-/
import Derived.Test.YtagggnjcpjodjaaIt4
namespace Go.Proofs.Ytagggnjcpjodjaa
open Go.RowKit Go.Sort
set_option linter.unusedVariables false
set_option linter.unusedSimpArgs false
namespace it
section
variable (E : Env)
set_option maxRecDepth 100000
set_option maxHeartbeats 4000000 in
theorem listNear_sp (l : List Int) (x : Int) (hl : l.length * 8 ≤ 140737488355328) (hB : ∀ k ∈ l, In64 k) : Sp (cx Try.prog mixed tyT_ok E) 4 [encI l, i64 x] (dB true) := by
  have hln := sortI_len l
  have c1 := values_sp E l
  have c2 := sorted_sp E l hl
  rw [show (D.sl 1 8 l.length (fun i _ => i64 ((sortI l).getD i 0)) : DD) = encI (sortI l) from by unfold encI; rw [sortI_len]] at c2
  have c3 := clone_32 E (sortI l) (by omega)
  obtain ⟨r, c4⟩ := compact_32 E (sortI l) (by omega)
  have c5 := index_sp E l x hl
  have c6 := near_sp E l x hl hB
  obtain ⟨q, hq⟩ : ∃ q, q = nearE l x := ⟨_, rfl⟩
  rw [← hq] at c6
  unfold nearE at hq
  by_cases hL : 2000 < l.length
  · have hq := hq.trans (if_pos hL)
    subst hq
    refine Sp.body Try.func4 (by kernel_rfl) rfl (by kernel_rfl) (by kernel_rfl) (by kernel_rfl) ?_
    repeat' first
      | refine Or.inr ⟨_, _, _, c3, by kernel_rfl, (by repeat' first | exact trivial | exact rfl | kernel_rfl | exact Dle.of_eq rfl | exact MLe.of_eq rfl | exact Dle.i (by omega) | exact Dle.i (by simp only [Int.toNat_natCast] at *; omega) | exact Dle.nil | exact Dle.rc Dle.nil | exact Option.some_ne_none _ | exact Or.inl rfl | exact Or.inr trivial | omega | (simp only [Int.toNat_natCast] at *; omega) | (intro _ _ _ _; exact Dle.of_eq rfl) | refine And.intro ?_ ?_), ?_⟩
      | refine Or.inr ⟨_, _, _, c4, by kernel_rfl, (by repeat' first | exact trivial | exact rfl | kernel_rfl | exact Dle.of_eq rfl | exact MLe.of_eq rfl | exact Dle.i (by omega) | exact Dle.i (by simp only [Int.toNat_natCast] at *; omega) | exact Dle.nil | exact Dle.rc Dle.nil | exact Option.some_ne_none _ | exact Or.inl rfl | exact Or.inr trivial | omega | (simp only [Int.toNat_natCast] at *; omega) | (intro _ _ _ _; exact Dle.of_eq rfl) | refine And.intro ?_ ?_), ?_⟩
      | (refine facW_intro ?_; intro _)
      | refine Or.inl ?_
      | ((conv => whnf); first | (refine condW_dec ?_ ?_ <;> intro _ <;> try (exfalso; omega)) | refine condW_not ?_ | (refine condW_bool ?_ ?_ <;> intro _ <;> try (exfalso; omega)) | (refine nbC_t (fun _ => ?_) ?_) | (refine nbC_f ?_ (fun _ => ?_)))
      | refine And.intro (by first | omega | (simp only [Int.toNat_natCast] at *; omega) | (simp only [Nat.reduceAdd, Int.cast_ofNat_Int, true_and, and_true]; omega) | kernel_rfl) ?_
      | refine RegW.run ?_
      | refine ⟨_, c1, ?_⟩
      | refine ⟨_, c2, ?_⟩
      | refine ⟨_, c5, ?_⟩
      | refine ⟨_, c6, ?_⟩
      | fail
    all_goals first
      | (exfalso; omega)
      | (exfalso; rename_i h; exact h rfl)
      | exact Dle.bo (by simp)
      | trace_state
  · have hq := hq.trans (if_neg hL)
    have ht := twice_iff l
    by_cases hn : l.Nodup
    · have hq := hq.trans (if_neg (fun h => h hn))
      have ht2 : ¬ (Lib.compact (sortI l)).length < l.length := fun h => ht.1 h hn
      rw [fst_plc hn] at c5
      have hb := plc_b l x l.length
      by_cases hneg : negB l l.length = true
      · have h0 : 0 < l.length := by
          refine Nat.pos_of_ne_zero fun h => ?_
          rw [h] at hneg
          cases hneg
        have hlow : (sortI l).getD (Int.toNat 0) 0 < 0 := (low_iff h0).2 hneg
        have hq := hq.trans (if_pos hneg)
        subst hq
        refine Sp.body Try.func4 (by kernel_rfl) rfl (by kernel_rfl) (by kernel_rfl) (by kernel_rfl) ?_
        repeat' first
          | refine Or.inr ⟨_, _, _, c3, by kernel_rfl, (by repeat' first | exact trivial | exact rfl | kernel_rfl | exact Dle.of_eq rfl | exact MLe.of_eq rfl | exact Dle.i (by omega) | exact Dle.i (by simp only [Int.toNat_natCast] at *; omega) | exact Dle.nil | exact Dle.rc Dle.nil | exact Option.some_ne_none _ | exact Or.inl rfl | exact Or.inr trivial | omega | (simp only [Int.toNat_natCast] at *; omega) | (intro _ _ _ _; exact Dle.of_eq rfl) | refine And.intro ?_ ?_), ?_⟩
          | refine Or.inr ⟨_, _, _, c4, by kernel_rfl, (by repeat' first | exact trivial | exact rfl | kernel_rfl | exact Dle.of_eq rfl | exact MLe.of_eq rfl | exact Dle.i (by omega) | exact Dle.i (by simp only [Int.toNat_natCast] at *; omega) | exact Dle.nil | exact Dle.rc Dle.nil | exact Option.some_ne_none _ | exact Or.inl rfl | exact Or.inr trivial | omega | (simp only [Int.toNat_natCast] at *; omega) | (intro _ _ _ _; exact Dle.of_eq rfl) | refine And.intro ?_ ?_), ?_⟩
          | (refine facW_intro ?_; intro _)
          | refine Or.inl ?_
          | ((conv => whnf); first | (refine condW_dec ?_ ?_ <;> intro _ <;> try (exfalso; omega)) | refine condW_not ?_ | (refine condW_bool ?_ ?_ <;> intro _ <;> try (exfalso; omega)) | (refine nbC_t (fun _ => ?_) ?_) | (refine nbC_f ?_ (fun _ => ?_)))
          | refine And.intro (by first | omega | (simp only [Int.toNat_natCast] at *; omega) | (simp only [Nat.reduceAdd, Int.cast_ofNat_Int, true_and, and_true]; omega) | kernel_rfl) ?_
          | refine RegW.run ?_
          | refine ⟨_, c1, ?_⟩
          | refine ⟨_, c2, ?_⟩
          | refine ⟨_, c5, ?_⟩
          | refine ⟨_, c6, ?_⟩
          | fail
        all_goals first
          | (exfalso; omega)
          | (exfalso; rename_i h; exact h rfl)
          | (exfalso; dsimp only at *; omega)
          | exact Dle.bo (by simp)
          | trace_state
      · have hlow : l.length = 0 ∨ ¬ (sortI l).getD (Int.toNat 0) 0 < 0 := (Nat.eq_zero_or_pos _).imp_right fun h0 h => hneg ((low_iff h0).1 h)
        have hq := hq.trans (if_neg hneg)
        by_cases hp : plc l x l.length < 0
        · have hq := hq.trans (if_pos hp)
          subst hq
          refine Sp.body Try.func4 (by kernel_rfl) rfl (by kernel_rfl) (by kernel_rfl) (by kernel_rfl) ?_
          repeat' first
            | refine Or.inr ⟨_, _, _, c3, by kernel_rfl, (by repeat' first | exact trivial | exact rfl | kernel_rfl | exact Dle.of_eq rfl | exact MLe.of_eq rfl | exact Dle.i (by omega) | exact Dle.i (by simp only [Int.toNat_natCast] at *; omega) | exact Dle.nil | exact Dle.rc Dle.nil | exact Option.some_ne_none _ | exact Or.inl rfl | exact Or.inr trivial | omega | (simp only [Int.toNat_natCast] at *; omega) | (intro _ _ _ _; exact Dle.of_eq rfl) | refine And.intro ?_ ?_), ?_⟩
            | refine Or.inr ⟨_, _, _, c4, by kernel_rfl, (by repeat' first | exact trivial | exact rfl | kernel_rfl | exact Dle.of_eq rfl | exact MLe.of_eq rfl | exact Dle.i (by omega) | exact Dle.i (by simp only [Int.toNat_natCast] at *; omega) | exact Dle.nil | exact Dle.rc Dle.nil | exact Option.some_ne_none _ | exact Or.inl rfl | exact Or.inr trivial | omega | (simp only [Int.toNat_natCast] at *; omega) | (intro _ _ _ _; exact Dle.of_eq rfl) | refine And.intro ?_ ?_), ?_⟩
            | (refine facW_intro ?_; intro _)
            | refine Or.inl ?_
            | ((conv => whnf); first | (refine condW_dec ?_ ?_ <;> intro _ <;> try (exfalso; omega)) | refine condW_not ?_ | (refine condW_bool ?_ ?_ <;> intro _ <;> try (exfalso; omega)) | (refine nbC_t (fun _ => ?_) ?_) | (refine nbC_f ?_ (fun _ => ?_)))
            | refine And.intro (by first | omega | (simp only [Int.toNat_natCast] at *; omega) | (simp only [Nat.reduceAdd, Int.cast_ofNat_Int, true_and, and_true]; omega) | kernel_rfl) ?_
            | refine RegW.run ?_
            | refine ⟨_, c1, ?_⟩
            | refine ⟨_, c2, ?_⟩
            | refine ⟨_, c5, ?_⟩
            | refine ⟨_, c6, ?_⟩
            | fail
          all_goals first
            | (exfalso; omega)
            | (exfalso; rename_i h; exact h rfl)
            | (exfalso; dsimp only at *; omega)
            | exact Dle.bo (by simp)
            | trace_state
        · have hq := hq.trans (if_neg hp)
          by_cases hp0 : 0 < plc l x l.length <;> by_cases hp1 : plc l x l.length + 1 < l.length
          all_goals
            simp only [hp0, hp1, if_true, if_false] at hq
            subst hq
            refine Sp.body Try.func4 (by kernel_rfl) rfl (by kernel_rfl) (by kernel_rfl) (by kernel_rfl) ?_
            repeat' first
              | refine Or.inr ⟨_, _, _, c3, by kernel_rfl, (by repeat' first | exact trivial | exact rfl | kernel_rfl | exact Dle.of_eq rfl | exact MLe.of_eq rfl | exact Dle.i (by omega) | exact Dle.i (by simp only [Int.toNat_natCast] at *; omega) | exact Dle.nil | exact Dle.rc Dle.nil | exact Option.some_ne_none _ | exact Or.inl rfl | exact Or.inr trivial | omega | (simp only [Int.toNat_natCast] at *; omega) | (intro _ _ _ _; exact Dle.of_eq rfl) | refine And.intro ?_ ?_), ?_⟩
              | refine Or.inr ⟨_, _, _, c4, by kernel_rfl, (by repeat' first | exact trivial | exact rfl | kernel_rfl | exact Dle.of_eq rfl | exact MLe.of_eq rfl | exact Dle.i (by omega) | exact Dle.i (by simp only [Int.toNat_natCast] at *; omega) | exact Dle.nil | exact Dle.rc Dle.nil | exact Option.some_ne_none _ | exact Or.inl rfl | exact Or.inr trivial | omega | (simp only [Int.toNat_natCast] at *; omega) | (intro _ _ _ _; exact Dle.of_eq rfl) | refine And.intro ?_ ?_), ?_⟩
              | (refine facW_intro ?_; intro _)
              | refine Or.inl ?_
              | ((conv => whnf); first | (refine condW_dec ?_ ?_ <;> intro _ <;> try (exfalso; omega)) | refine condW_not ?_ | (refine condW_bool ?_ ?_ <;> intro _ <;> try (exfalso; omega)) | (refine nbC_t (fun _ => ?_) ?_) | (refine nbC_f ?_ (fun _ => ?_)))
              | refine And.intro (by first | omega | (simp only [Int.toNat_natCast] at *; omega) | (simp only [Nat.reduceAdd, Int.cast_ofNat_Int, true_and, and_true]; omega) | kernel_rfl) ?_
              | refine RegW.run ?_
              | refine ⟨_, c1, ?_⟩
              | refine ⟨_, c2, ?_⟩
              | refine ⟨_, c5, ?_⟩
              | refine ⟨_, c6, ?_⟩
              | fail
            all_goals first
              | (exfalso; omega)
              | (exfalso; rename_i h; exact h rfl)
              | (exfalso; dsimp only at *; omega)
              | exact Dle.bo (by simp)
              | trace_state
    · have hq := hq.trans (if_pos hn)
      have ht2 := ht.2 hn
      subst hq
      refine Sp.body Try.func4 (by kernel_rfl) rfl (by kernel_rfl) (by kernel_rfl) (by kernel_rfl) ?_
      repeat' first
        | refine Or.inr ⟨_, _, _, c3, by kernel_rfl, (by repeat' first | exact trivial | exact rfl | kernel_rfl | exact Dle.of_eq rfl | exact MLe.of_eq rfl | exact Dle.i (by omega) | exact Dle.i (by simp only [Int.toNat_natCast] at *; omega) | exact Dle.nil | exact Dle.rc Dle.nil | exact Option.some_ne_none _ | exact Or.inl rfl | exact Or.inr trivial | omega | (simp only [Int.toNat_natCast] at *; omega) | (intro _ _ _ _; exact Dle.of_eq rfl) | refine And.intro ?_ ?_), ?_⟩
        | refine Or.inr ⟨_, _, _, c4, by kernel_rfl, (by repeat' first | exact trivial | exact rfl | kernel_rfl | exact Dle.of_eq rfl | exact MLe.of_eq rfl | exact Dle.i (by omega) | exact Dle.i (by simp only [Int.toNat_natCast] at *; omega) | exact Dle.nil | exact Dle.rc Dle.nil | exact Option.some_ne_none _ | exact Or.inl rfl | exact Or.inr trivial | omega | (simp only [Int.toNat_natCast] at *; omega) | (intro _ _ _ _; exact Dle.of_eq rfl) | refine And.intro ?_ ?_), ?_⟩
        | (refine facW_intro ?_; intro _)
        | refine Or.inl ?_
        | ((conv => whnf); first | (refine condW_dec ?_ ?_ <;> intro _ <;> try (exfalso; omega)) | refine condW_not ?_ | (refine condW_bool ?_ ?_ <;> intro _ <;> try (exfalso; omega)) | (refine nbC_t (fun _ => ?_) ?_) | (refine nbC_f ?_ (fun _ => ?_)))
        | refine And.intro (by first | omega | (simp only [Int.toNat_natCast] at *; omega) | (simp only [Nat.reduceAdd, Int.cast_ofNat_Int, true_and, and_true]; omega) | kernel_rfl) ?_
        | refine RegW.run ?_
        | refine ⟨_, c1, ?_⟩
        | refine ⟨_, c2, ?_⟩
        | refine ⟨_, c5, ?_⟩
        | refine ⟨_, c6, ?_⟩
        | fail
      all_goals first
        | (exfalso; omega)
        | (exfalso; rename_i h; exact h rfl)
        | exact Dle.bo (by simp)
        | trace_state
end
end it
end Go.Proofs.Ytagggnjcpjodjaa
