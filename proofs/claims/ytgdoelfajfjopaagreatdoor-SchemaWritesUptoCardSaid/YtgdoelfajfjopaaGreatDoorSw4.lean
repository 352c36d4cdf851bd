/-
  The reference's SchemaValueOf: the walk.
-/
import Derived.Test.YtgdoelfajfjopaaGreatDoorSw3
import Derived.Test.YtgdoelfajfjopaaGreatDoorK2
namespace Go.Proofs.YtgdoelfajfjopaaGreatDoor
open Go.RowKit
set_option linter.unusedVariables false
set_option linter.unusedSimpArgs false
namespace sw
open cr se ap so tab mg rs
theorem kn_nam0 {k : Int} (h : ¬ k = -1) : rs.names.getD (0 + k.toNat) ⟨#[]⟩ = kname k := by rw [Nat.zero_add]; exact kn_nam h
theorem tup2 (E : Env) (v : Vu) (e : Int) : Dle (cx Tryz.prog mixed tyT_ok E) (.tup [encV v, i64 e]) (.tup [encV v, i64 e]) := Dle.refl _ _
theorem tup0 (E : Env) (e : Int) : Dle (cx Tryz.prog mixed tyT_ok E) (.tup [.agg [i64 0, dB false, i64 0, dS ⟨#[]⟩, .v (.slice none 0 0), .v (.slice none 0 0)], i64 e]) (.tup [encV .zero, i64 e]) := Dle.tup (X := (cx Tryz.prog mixed tyT_ok E)) ⟨zeroC E, Dle.refl _ _, trivial⟩
section
variable (E : Env)
set_option maxRecDepth 100000
set_option maxHeartbeats 16000000 in
theorem schemaValueOf_sp (hML : ∀ w, E.G w → ML w) (E0 : Env) (hg : ∀ w, E0.G w → ∀ g, Rep view E0.MG w b0 (namesGv g) (.pointer (some ⟨g, 0, none⟩))) (hE : E = nEnv E0 hg) (l : List Fd) (b : Bool) (hl : fdOk l) (hlen : l.length ≤ 1000000000) (hw : (l.map fdw).sum ≤ 100000000) : Sp (cx Tryz.prog mixed tyT_ok E) 9 [.agg [encFs l, dB b]] (.tup [encV (schR l b).1, i64 (schR l b).2]) := by
  have hcs := schemaFault_sp E hML l b hl hlen
  have hko := @kinds_ok l
  have hwt := schV_wt l b
  have hn7 : rs.names.length = 7 := rfl
  obtain ⟨r, hr⟩ : ∃ r, r = schR l b := ⟨_, rfl⟩
  rw [← hr]
  unfold schR at hr
  generalize schemaE l = es at hcs hr hko
  by_cases h1 : es = 0
  · obtain ⟨hl1, hl2⟩ := hko h1
    subst h1
    rw [if_neg (show ¬ ((0 : Int) ≠ 0) from fun h => h rfl)] at hr
    subst hE
    refine Sp.body Tryz.func9 (by kernel_rfl) rfl (by kernel_rfl) (by kernel_rfl) (by kernel_rfl) ?_
    repeat' first
      | (refine codeW_cond rfl ?_; first | (refine condW_dec ?_ ?_ <;> intro _ <;> try (exfalso; omega)) | refine condW_not ?_ | (refine condW_bool ?_ ?_ <;> intro _ <;> try (exfalso; omega)))
      | (refine facW_intro ?_; intro _)
      | refine Or.inl ?_
      | ((conv => whnf); first | (refine condW_dec ?_ ?_ <;> intro _ <;> try (exfalso; omega)) | refine condW_not ?_ | (refine condW_bool ?_ ?_ <;> intro _ <;> try (exfalso; omega)) | (refine nbC_t (fun _ => ?_) ?_) | (refine nbC_f ?_ (fun _ => ?_)))
      | refine And.intro (by first | omega | (simp only [Int.toNat_natCast] at *; omega) | (simp only [Nat.reduceAdd, Int.cast_ofNat_Int, true_and, and_true]; omega)  | (simp only [cx, view, Nat.reduceAdd, Int.toNat_natCast]; omega) | kernel_rfl) ?_
      | refine RegW.run ?_
      | refine ⟨_, hcs, ?_⟩
      | fail
    refine ⟨Nat, fun k => [(22, i64 k)], fun k => [(5, .cells [i64 5, dB false, i64 0, dS ⟨#[]⟩, .own 23 6 0 k, .v (.slice none 0 0)])], [1, 2], fun k => [(23, 25, k, fun i j => ((l.map fieldV).getD i .zero).cell j)], fun k => k ≤ l.length, fun k => l.length - k, ⟨0, Nat.zero_le _, ⟨[(23, none)], ⟨by kernel_rfl, by kernel_rfl, by kernel_rfl, by kernel_rfl, by kernel_rfl, by kernel_rfl, by kernel_rfl⟩, (by repeat' first | exact trivial | exact rfl | kernel_rfl | exact Dle.of_eq rfl | exact MLe.of_eq rfl | exact Dle.i (by omega) | exact Dle.i (by simp only [Int.toNat_natCast] at *; omega) | exact Dle.nil | exact Dle.rc Dle.nil | exact Option.some_ne_none _ | exact Or.inl rfl | exact Or.inr trivial | omega | (simp only [Int.toNat_natCast] at *; omega) | (intro _ _ _ _; exact Dle.of_eq rfl) | refine And.intro ?_ ?_)⟩⟩, fun k hk => ?_⟩
    have hk : k ≤ l.length := hk
    by_cases hlt : k < l.length
    · obtain ⟨g1, g2⟩ := hl2 k hlt
      have hdw := (hl _ (getD_mem l default k hlt)).1
      have hfo : (l.getD k default).oneOf.length ≤ 100000000 := by have h1 := fdw_at l k hlt; have h2 := one_len (l.getD k default).oneOf; have h3 :  fdw (l.getD k default) = (l.getD k default).route.size + ((l.getD k default).oneOf.map fun s => s.size + 1).sum + (l.getD k default).dflt.wt := rfl; omega
      have hx1 : (l.getD ((k : Int).toNat) default).oneOf.length = (l.getD k default).oneOf.length := rfl
      have hx2 : (l.getD ((k : Int).toNat) default).dflt.kind = (l.getD k default).dflt.kind := rfl
      have hx3 : (l.getD ((k : Int).toNat) default).kind = (l.getD k default).kind := rfl
      have htl := textList_sp (nEnv E0 hg) (l.getD k default).oneOf (by omega)
      cases hb : (l.getD k default).bounded with
      | true =>
        by_cases ho : 0 < (l.getD k default).oneOf.length
        · by_cases hd : (l.getD k default).dflt.kind ≠ 0
          · skip
            repeat' first
              | refine Or.inr ⟨_, _, _, tbl_f (nEnv E0 hg) hpm (by first | exact kn_any (by omega) | exact kn_nam (by omega) | exact kn_nam0 (by omega)), by kernel_rfl, (by repeat' first | (exact fin_d (nEnv E0 hg) (fin_o (fin_tt hpm hb _) ho) hd) | exact trivial | exact rfl | kernel_rfl | exact Dle.of_eq rfl | exact MLe.of_eq rfl | exact Dle.i (by omega) | exact Dle.i (by simp only [Int.toNat_natCast] at *; omega) | exact Dle.nil | exact Dle.rc Dle.nil | exact Option.some_ne_none _ | exact Or.inl rfl | exact Or.inr trivial | omega | (simp only [Int.toNat_natCast] at *; omega) | (intro _ _ _ _; exact Dle.of_eq rfl) | refine And.intro ?_ ?_), ?_⟩
              | (refine canW_r ?_)
              | (refine open_q1 fun pm hpm => ?_)
              | (refine Or.inr ⟨q1_no hpm, ?_⟩)
              | (refine ⟨_, _, rfl, hst _ _, ?_⟩)
              | (refine codeW_cond rfl ?_; first | (refine condW_dec ?_ ?_ <;> intro _ <;> try (exfalso; first | omega | (rename_i h; exact absurd (hb.symm.trans h) (by decide)))) | refine condW_not ?_ | (refine condW_bool ?_ ?_ <;> intro _ <;> try (exfalso; first | omega | (rename_i h; exact absurd (hb.symm.trans h) (by decide)))))
              | (refine facW_intro ?_; intro _)
              | refine Or.inl ?_
              | ((conv => whnf); first | (refine condW_dec ?_ ?_ <;> intro _ <;> try (exfalso; first | omega | (rename_i h; exact absurd (hb.symm.trans h) (by decide)))) | refine condW_not ?_ | (refine condW_bool ?_ ?_ <;> intro _ <;> try (exfalso; first | omega | (rename_i h; exact absurd (hb.symm.trans h) (by decide)))) | (refine nbC_t (fun _ => ?_) ?_) | (refine nbC_f ?_ (fun _ => ?_)))
              | refine And.intro (by first | omega | (simp only [Int.toNat_natCast] at *; omega) | (simp only [Nat.reduceAdd, Int.cast_ofNat_Int, true_and, and_true]; omega)  | (simp only [cx, view, Nat.reduceAdd, Int.toNat_natCast]; omega) | kernel_rfl) ?_
              | refine RegW.run ?_
              | refine ⟨_, text_sp (nEnv E0 hg) _, ?_⟩
              | refine ⟨_, truth_sp (nEnv E0 hg) _, ?_⟩
              | refine ⟨_, wholeR_sp (nEnv E0 hg) _, ?_⟩
              | refine ⟨_, htl, ?_⟩
              | fail
            all_goals first
              | (exfalso; omega)
              | exact ⟨k + 1, by omega, ⟨[(23, some 76)], ⟨by kernel_rfl, by kernel_rfl, by kernel_rfl, by kernel_rfl, by kernel_rfl, by kernel_rfl, by kernel_rfl⟩, (by repeat' first | exact trivial | exact rfl | kernel_rfl | exact Dle.of_eq rfl | exact MLe.of_eq rfl | exact Dle.i (by omega) | exact Dle.i (by simp only [Int.toNat_natCast] at *; omega) | exact Dle.nil | exact Dle.rc Dle.nil | exact Option.some_ne_none _ | exact Or.inl rfl | exact Or.inr trivial | omega | (simp only [Int.toNat_natCast] at *; omega) | (intro _ _ _ _; exact Dle.of_eq rfl) | (intro i j hi hj; exact row_fv (nEnv E0 hg) hlt i j hi hj) | refine And.intro ?_ ?_)⟩, by first | omega | (dsimp only; omega)⟩
              | trace_state
          · skip
            repeat' first
              | refine Or.inr ⟨_, _, _, tbl_f (nEnv E0 hg) hpm (by first | exact kn_any (by omega) | exact kn_nam (by omega) | exact kn_nam0 (by omega)), by kernel_rfl, (by repeat' first | (exact fin_n (nEnv E0 hg) (fin_o (fin_tt hpm hb _) ho) hd) | exact trivial | exact rfl | kernel_rfl | exact Dle.of_eq rfl | exact MLe.of_eq rfl | exact Dle.i (by omega) | exact Dle.i (by simp only [Int.toNat_natCast] at *; omega) | exact Dle.nil | exact Dle.rc Dle.nil | exact Option.some_ne_none _ | exact Or.inl rfl | exact Or.inr trivial | omega | (simp only [Int.toNat_natCast] at *; omega) | (intro _ _ _ _; exact Dle.of_eq rfl) | refine And.intro ?_ ?_), ?_⟩
              | (refine canW_r ?_)
              | (refine open_q1 fun pm hpm => ?_)
              | (refine Or.inr ⟨q1_no hpm, ?_⟩)
              | (refine ⟨_, _, rfl, hst _ _, ?_⟩)
              | (refine codeW_cond rfl ?_; first | (refine condW_dec ?_ ?_ <;> intro _ <;> try (exfalso; first | omega | (rename_i h; exact absurd (hb.symm.trans h) (by decide)))) | refine condW_not ?_ | (refine condW_bool ?_ ?_ <;> intro _ <;> try (exfalso; first | omega | (rename_i h; exact absurd (hb.symm.trans h) (by decide)))))
              | (refine facW_intro ?_; intro _)
              | refine Or.inl ?_
              | ((conv => whnf); first | (refine condW_dec ?_ ?_ <;> intro _ <;> try (exfalso; first | omega | (rename_i h; exact absurd (hb.symm.trans h) (by decide)))) | refine condW_not ?_ | (refine condW_bool ?_ ?_ <;> intro _ <;> try (exfalso; first | omega | (rename_i h; exact absurd (hb.symm.trans h) (by decide)))) | (refine nbC_t (fun _ => ?_) ?_) | (refine nbC_f ?_ (fun _ => ?_)))
              | refine And.intro (by first | omega | (simp only [Int.toNat_natCast] at *; omega) | (simp only [Nat.reduceAdd, Int.cast_ofNat_Int, true_and, and_true]; omega)  | (simp only [cx, view, Nat.reduceAdd, Int.toNat_natCast]; omega) | kernel_rfl) ?_
              | refine RegW.run ?_
              | refine ⟨_, text_sp (nEnv E0 hg) _, ?_⟩
              | refine ⟨_, truth_sp (nEnv E0 hg) _, ?_⟩
              | refine ⟨_, wholeR_sp (nEnv E0 hg) _, ?_⟩
              | refine ⟨_, htl, ?_⟩
              | fail
            all_goals first
              | (exfalso; omega)
              | exact ⟨k + 1, by omega, ⟨[(23, some 76)], ⟨by kernel_rfl, by kernel_rfl, by kernel_rfl, by kernel_rfl, by kernel_rfl, by kernel_rfl, by kernel_rfl⟩, (by repeat' first | exact trivial | exact rfl | kernel_rfl | exact Dle.of_eq rfl | exact MLe.of_eq rfl | exact Dle.i (by omega) | exact Dle.i (by simp only [Int.toNat_natCast] at *; omega) | exact Dle.nil | exact Dle.rc Dle.nil | exact Option.some_ne_none _ | exact Or.inl rfl | exact Or.inr trivial | omega | (simp only [Int.toNat_natCast] at *; omega) | (intro _ _ _ _; exact Dle.of_eq rfl) | (intro i j hi hj; exact row_fv (nEnv E0 hg) hlt i j hi hj) | refine And.intro ?_ ?_)⟩, by first | omega | (dsimp only; omega)⟩
              | trace_state
        · by_cases hd : (l.getD k default).dflt.kind ≠ 0
          · skip
            repeat' first
              | refine Or.inr ⟨_, _, _, tbl_f (nEnv E0 hg) hpm (by first | exact kn_any (by omega) | exact kn_nam (by omega) | exact kn_nam0 (by omega)), by kernel_rfl, (by repeat' first | (exact fin_d (nEnv E0 hg) (fin_p (fin_tt hpm hb _) ho) hd) | exact trivial | exact rfl | kernel_rfl | exact Dle.of_eq rfl | exact MLe.of_eq rfl | exact Dle.i (by omega) | exact Dle.i (by simp only [Int.toNat_natCast] at *; omega) | exact Dle.nil | exact Dle.rc Dle.nil | exact Option.some_ne_none _ | exact Or.inl rfl | exact Or.inr trivial | omega | (simp only [Int.toNat_natCast] at *; omega) | (intro _ _ _ _; exact Dle.of_eq rfl) | refine And.intro ?_ ?_), ?_⟩
              | (refine canW_r ?_)
              | (refine open_q1 fun pm hpm => ?_)
              | (refine Or.inr ⟨q1_no hpm, ?_⟩)
              | (refine ⟨_, _, rfl, hst _ _, ?_⟩)
              | (refine codeW_cond rfl ?_; first | (refine condW_dec ?_ ?_ <;> intro _ <;> try (exfalso; first | omega | (rename_i h; exact absurd (hb.symm.trans h) (by decide)))) | refine condW_not ?_ | (refine condW_bool ?_ ?_ <;> intro _ <;> try (exfalso; first | omega | (rename_i h; exact absurd (hb.symm.trans h) (by decide)))))
              | (refine facW_intro ?_; intro _)
              | refine Or.inl ?_
              | ((conv => whnf); first | (refine condW_dec ?_ ?_ <;> intro _ <;> try (exfalso; first | omega | (rename_i h; exact absurd (hb.symm.trans h) (by decide)))) | refine condW_not ?_ | (refine condW_bool ?_ ?_ <;> intro _ <;> try (exfalso; first | omega | (rename_i h; exact absurd (hb.symm.trans h) (by decide)))) | (refine nbC_t (fun _ => ?_) ?_) | (refine nbC_f ?_ (fun _ => ?_)))
              | refine And.intro (by first | omega | (simp only [Int.toNat_natCast] at *; omega) | (simp only [Nat.reduceAdd, Int.cast_ofNat_Int, true_and, and_true]; omega)  | (simp only [cx, view, Nat.reduceAdd, Int.toNat_natCast]; omega) | kernel_rfl) ?_
              | refine RegW.run ?_
              | refine ⟨_, text_sp (nEnv E0 hg) _, ?_⟩
              | refine ⟨_, truth_sp (nEnv E0 hg) _, ?_⟩
              | refine ⟨_, wholeR_sp (nEnv E0 hg) _, ?_⟩
              | refine ⟨_, htl, ?_⟩
              | fail
            all_goals first
              | (exfalso; omega)
              | exact ⟨k + 1, by omega, ⟨[(23, some 76)], ⟨by kernel_rfl, by kernel_rfl, by kernel_rfl, by kernel_rfl, by kernel_rfl, by kernel_rfl, by kernel_rfl⟩, (by repeat' first | exact trivial | exact rfl | kernel_rfl | exact Dle.of_eq rfl | exact MLe.of_eq rfl | exact Dle.i (by omega) | exact Dle.i (by simp only [Int.toNat_natCast] at *; omega) | exact Dle.nil | exact Dle.rc Dle.nil | exact Option.some_ne_none _ | exact Or.inl rfl | exact Or.inr trivial | omega | (simp only [Int.toNat_natCast] at *; omega) | (intro _ _ _ _; exact Dle.of_eq rfl) | (intro i j hi hj; exact row_fv (nEnv E0 hg) hlt i j hi hj) | refine And.intro ?_ ?_)⟩, by first | omega | (dsimp only; omega)⟩
              | trace_state
          · skip
            repeat' first
              | refine Or.inr ⟨_, _, _, tbl_f (nEnv E0 hg) hpm (by first | exact kn_any (by omega) | exact kn_nam (by omega) | exact kn_nam0 (by omega)), by kernel_rfl, (by repeat' first | (exact fin_n (nEnv E0 hg) (fin_p (fin_tt hpm hb _) ho) hd) | exact trivial | exact rfl | kernel_rfl | exact Dle.of_eq rfl | exact MLe.of_eq rfl | exact Dle.i (by omega) | exact Dle.i (by simp only [Int.toNat_natCast] at *; omega) | exact Dle.nil | exact Dle.rc Dle.nil | exact Option.some_ne_none _ | exact Or.inl rfl | exact Or.inr trivial | omega | (simp only [Int.toNat_natCast] at *; omega) | (intro _ _ _ _; exact Dle.of_eq rfl) | refine And.intro ?_ ?_), ?_⟩
              | (refine canW_r ?_)
              | (refine open_q1 fun pm hpm => ?_)
              | (refine Or.inr ⟨q1_no hpm, ?_⟩)
              | (refine ⟨_, _, rfl, hst _ _, ?_⟩)
              | (refine codeW_cond rfl ?_; first | (refine condW_dec ?_ ?_ <;> intro _ <;> try (exfalso; first | omega | (rename_i h; exact absurd (hb.symm.trans h) (by decide)))) | refine condW_not ?_ | (refine condW_bool ?_ ?_ <;> intro _ <;> try (exfalso; first | omega | (rename_i h; exact absurd (hb.symm.trans h) (by decide)))))
              | (refine facW_intro ?_; intro _)
              | refine Or.inl ?_
              | ((conv => whnf); first | (refine condW_dec ?_ ?_ <;> intro _ <;> try (exfalso; first | omega | (rename_i h; exact absurd (hb.symm.trans h) (by decide)))) | refine condW_not ?_ | (refine condW_bool ?_ ?_ <;> intro _ <;> try (exfalso; first | omega | (rename_i h; exact absurd (hb.symm.trans h) (by decide)))) | (refine nbC_t (fun _ => ?_) ?_) | (refine nbC_f ?_ (fun _ => ?_)))
              | refine And.intro (by first | omega | (simp only [Int.toNat_natCast] at *; omega) | (simp only [Nat.reduceAdd, Int.cast_ofNat_Int, true_and, and_true]; omega)  | (simp only [cx, view, Nat.reduceAdd, Int.toNat_natCast]; omega) | kernel_rfl) ?_
              | refine RegW.run ?_
              | refine ⟨_, text_sp (nEnv E0 hg) _, ?_⟩
              | refine ⟨_, truth_sp (nEnv E0 hg) _, ?_⟩
              | refine ⟨_, wholeR_sp (nEnv E0 hg) _, ?_⟩
              | refine ⟨_, htl, ?_⟩
              | fail
            all_goals first
              | (exfalso; omega)
              | exact ⟨k + 1, by omega, ⟨[(23, some 76)], ⟨by kernel_rfl, by kernel_rfl, by kernel_rfl, by kernel_rfl, by kernel_rfl, by kernel_rfl, by kernel_rfl⟩, (by repeat' first | exact trivial | exact rfl | kernel_rfl | exact Dle.of_eq rfl | exact MLe.of_eq rfl | exact Dle.i (by omega) | exact Dle.i (by simp only [Int.toNat_natCast] at *; omega) | exact Dle.nil | exact Dle.rc Dle.nil | exact Option.some_ne_none _ | exact Or.inl rfl | exact Or.inr trivial | omega | (simp only [Int.toNat_natCast] at *; omega) | (intro _ _ _ _; exact Dle.of_eq rfl) | (intro i j hi hj; exact row_fv (nEnv E0 hg) hlt i j hi hj) | refine And.intro ?_ ?_)⟩, by first | omega | (dsimp only; omega)⟩
              | trace_state
      | false =>
        by_cases ho : 0 < (l.getD k default).oneOf.length
        · by_cases hd : (l.getD k default).dflt.kind ≠ 0
          · skip
            repeat' first
              | refine Or.inr ⟨_, _, _, tbl_f (nEnv E0 hg) hpm (by first | exact kn_any (by omega) | exact kn_nam (by omega) | exact kn_nam0 (by omega)), by kernel_rfl, (by repeat' first | (exact fin_d (nEnv E0 hg) (fin_o (fin_ff hb) ho) hd) | exact trivial | exact rfl | kernel_rfl | exact Dle.of_eq rfl | exact MLe.of_eq rfl | exact Dle.i (by omega) | exact Dle.i (by simp only [Int.toNat_natCast] at *; omega) | exact Dle.nil | exact Dle.rc Dle.nil | exact Option.some_ne_none _ | exact Or.inl rfl | exact Or.inr trivial | omega | (simp only [Int.toNat_natCast] at *; omega) | (intro _ _ _ _; exact Dle.of_eq rfl) | refine And.intro ?_ ?_), ?_⟩
              | (refine canW_r ?_)
              | (refine open_q1 fun pm hpm => ?_)
              | (refine Or.inr ⟨q1_no hpm, ?_⟩)
              | (refine ⟨_, _, rfl, hst _ _, ?_⟩)
              | (refine codeW_cond rfl ?_; first | (refine condW_dec ?_ ?_ <;> intro _ <;> try (exfalso; first | omega | (rename_i h; exact absurd (hb.symm.trans h) (by decide)))) | refine condW_not ?_ | (refine condW_bool ?_ ?_ <;> intro _ <;> try (exfalso; first | omega | (rename_i h; exact absurd (hb.symm.trans h) (by decide)))))
              | (refine facW_intro ?_; intro _)
              | refine Or.inl ?_
              | ((conv => whnf); first | (refine condW_dec ?_ ?_ <;> intro _ <;> try (exfalso; first | omega | (rename_i h; exact absurd (hb.symm.trans h) (by decide)))) | refine condW_not ?_ | (refine condW_bool ?_ ?_ <;> intro _ <;> try (exfalso; first | omega | (rename_i h; exact absurd (hb.symm.trans h) (by decide)))) | (refine nbC_t (fun _ => ?_) ?_) | (refine nbC_f ?_ (fun _ => ?_)))
              | refine And.intro (by first | omega | (simp only [Int.toNat_natCast] at *; omega) | (simp only [Nat.reduceAdd, Int.cast_ofNat_Int, true_and, and_true]; omega)  | (simp only [cx, view, Nat.reduceAdd, Int.toNat_natCast]; omega) | kernel_rfl) ?_
              | refine RegW.run ?_
              | refine ⟨_, text_sp (nEnv E0 hg) _, ?_⟩
              | refine ⟨_, truth_sp (nEnv E0 hg) _, ?_⟩
              | refine ⟨_, wholeR_sp (nEnv E0 hg) _, ?_⟩
              | refine ⟨_, htl, ?_⟩
              | fail
            all_goals first
              | (exfalso; omega)
              | exact ⟨k + 1, by omega, ⟨[(23, some 76)], ⟨by kernel_rfl, by kernel_rfl, by kernel_rfl, by kernel_rfl, by kernel_rfl, by kernel_rfl, by kernel_rfl⟩, (by repeat' first | exact trivial | exact rfl | kernel_rfl | exact Dle.of_eq rfl | exact MLe.of_eq rfl | exact Dle.i (by omega) | exact Dle.i (by simp only [Int.toNat_natCast] at *; omega) | exact Dle.nil | exact Dle.rc Dle.nil | exact Option.some_ne_none _ | exact Or.inl rfl | exact Or.inr trivial | omega | (simp only [Int.toNat_natCast] at *; omega) | (intro _ _ _ _; exact Dle.of_eq rfl) | (intro i j hi hj; exact row_fv (nEnv E0 hg) hlt i j hi hj) | refine And.intro ?_ ?_)⟩, by first | omega | (dsimp only; omega)⟩
              | trace_state
          · skip
            repeat' first
              | refine Or.inr ⟨_, _, _, tbl_f (nEnv E0 hg) hpm (by first | exact kn_any (by omega) | exact kn_nam (by omega) | exact kn_nam0 (by omega)), by kernel_rfl, (by repeat' first | (exact fin_n (nEnv E0 hg) (fin_o (fin_ff hb) ho) hd) | exact trivial | exact rfl | kernel_rfl | exact Dle.of_eq rfl | exact MLe.of_eq rfl | exact Dle.i (by omega) | exact Dle.i (by simp only [Int.toNat_natCast] at *; omega) | exact Dle.nil | exact Dle.rc Dle.nil | exact Option.some_ne_none _ | exact Or.inl rfl | exact Or.inr trivial | omega | (simp only [Int.toNat_natCast] at *; omega) | (intro _ _ _ _; exact Dle.of_eq rfl) | refine And.intro ?_ ?_), ?_⟩
              | (refine canW_r ?_)
              | (refine open_q1 fun pm hpm => ?_)
              | (refine Or.inr ⟨q1_no hpm, ?_⟩)
              | (refine ⟨_, _, rfl, hst _ _, ?_⟩)
              | (refine codeW_cond rfl ?_; first | (refine condW_dec ?_ ?_ <;> intro _ <;> try (exfalso; first | omega | (rename_i h; exact absurd (hb.symm.trans h) (by decide)))) | refine condW_not ?_ | (refine condW_bool ?_ ?_ <;> intro _ <;> try (exfalso; first | omega | (rename_i h; exact absurd (hb.symm.trans h) (by decide)))))
              | (refine facW_intro ?_; intro _)
              | refine Or.inl ?_
              | ((conv => whnf); first | (refine condW_dec ?_ ?_ <;> intro _ <;> try (exfalso; first | omega | (rename_i h; exact absurd (hb.symm.trans h) (by decide)))) | refine condW_not ?_ | (refine condW_bool ?_ ?_ <;> intro _ <;> try (exfalso; first | omega | (rename_i h; exact absurd (hb.symm.trans h) (by decide)))) | (refine nbC_t (fun _ => ?_) ?_) | (refine nbC_f ?_ (fun _ => ?_)))
              | refine And.intro (by first | omega | (simp only [Int.toNat_natCast] at *; omega) | (simp only [Nat.reduceAdd, Int.cast_ofNat_Int, true_and, and_true]; omega)  | (simp only [cx, view, Nat.reduceAdd, Int.toNat_natCast]; omega) | kernel_rfl) ?_
              | refine RegW.run ?_
              | refine ⟨_, text_sp (nEnv E0 hg) _, ?_⟩
              | refine ⟨_, truth_sp (nEnv E0 hg) _, ?_⟩
              | refine ⟨_, wholeR_sp (nEnv E0 hg) _, ?_⟩
              | refine ⟨_, htl, ?_⟩
              | fail
            all_goals first
              | (exfalso; omega)
              | exact ⟨k + 1, by omega, ⟨[(23, some 76)], ⟨by kernel_rfl, by kernel_rfl, by kernel_rfl, by kernel_rfl, by kernel_rfl, by kernel_rfl, by kernel_rfl⟩, (by repeat' first | exact trivial | exact rfl | kernel_rfl | exact Dle.of_eq rfl | exact MLe.of_eq rfl | exact Dle.i (by omega) | exact Dle.i (by simp only [Int.toNat_natCast] at *; omega) | exact Dle.nil | exact Dle.rc Dle.nil | exact Option.some_ne_none _ | exact Or.inl rfl | exact Or.inr trivial | omega | (simp only [Int.toNat_natCast] at *; omega) | (intro _ _ _ _; exact Dle.of_eq rfl) | (intro i j hi hj; exact row_fv (nEnv E0 hg) hlt i j hi hj) | refine And.intro ?_ ?_)⟩, by first | omega | (dsimp only; omega)⟩
              | trace_state
        · by_cases hd : (l.getD k default).dflt.kind ≠ 0
          · skip
            repeat' first
              | refine Or.inr ⟨_, _, _, tbl_f (nEnv E0 hg) hpm (by first | exact kn_any (by omega) | exact kn_nam (by omega) | exact kn_nam0 (by omega)), by kernel_rfl, (by repeat' first | (exact fin_d (nEnv E0 hg) (fin_p (fin_ff hb) ho) hd) | exact trivial | exact rfl | kernel_rfl | exact Dle.of_eq rfl | exact MLe.of_eq rfl | exact Dle.i (by omega) | exact Dle.i (by simp only [Int.toNat_natCast] at *; omega) | exact Dle.nil | exact Dle.rc Dle.nil | exact Option.some_ne_none _ | exact Or.inl rfl | exact Or.inr trivial | omega | (simp only [Int.toNat_natCast] at *; omega) | (intro _ _ _ _; exact Dle.of_eq rfl) | refine And.intro ?_ ?_), ?_⟩
              | (refine canW_r ?_)
              | (refine open_q1 fun pm hpm => ?_)
              | (refine Or.inr ⟨q1_no hpm, ?_⟩)
              | (refine ⟨_, _, rfl, hst _ _, ?_⟩)
              | (refine codeW_cond rfl ?_; first | (refine condW_dec ?_ ?_ <;> intro _ <;> try (exfalso; first | omega | (rename_i h; exact absurd (hb.symm.trans h) (by decide)))) | refine condW_not ?_ | (refine condW_bool ?_ ?_ <;> intro _ <;> try (exfalso; first | omega | (rename_i h; exact absurd (hb.symm.trans h) (by decide)))))
              | (refine facW_intro ?_; intro _)
              | refine Or.inl ?_
              | ((conv => whnf); first | (refine condW_dec ?_ ?_ <;> intro _ <;> try (exfalso; first | omega | (rename_i h; exact absurd (hb.symm.trans h) (by decide)))) | refine condW_not ?_ | (refine condW_bool ?_ ?_ <;> intro _ <;> try (exfalso; first | omega | (rename_i h; exact absurd (hb.symm.trans h) (by decide)))) | (refine nbC_t (fun _ => ?_) ?_) | (refine nbC_f ?_ (fun _ => ?_)))
              | refine And.intro (by first | omega | (simp only [Int.toNat_natCast] at *; omega) | (simp only [Nat.reduceAdd, Int.cast_ofNat_Int, true_and, and_true]; omega)  | (simp only [cx, view, Nat.reduceAdd, Int.toNat_natCast]; omega) | kernel_rfl) ?_
              | refine RegW.run ?_
              | refine ⟨_, text_sp (nEnv E0 hg) _, ?_⟩
              | refine ⟨_, truth_sp (nEnv E0 hg) _, ?_⟩
              | refine ⟨_, wholeR_sp (nEnv E0 hg) _, ?_⟩
              | refine ⟨_, htl, ?_⟩
              | fail
            all_goals first
              | (exfalso; omega)
              | exact ⟨k + 1, by omega, ⟨[(23, some 76)], ⟨by kernel_rfl, by kernel_rfl, by kernel_rfl, by kernel_rfl, by kernel_rfl, by kernel_rfl, by kernel_rfl⟩, (by repeat' first | exact trivial | exact rfl | kernel_rfl | exact Dle.of_eq rfl | exact MLe.of_eq rfl | exact Dle.i (by omega) | exact Dle.i (by simp only [Int.toNat_natCast] at *; omega) | exact Dle.nil | exact Dle.rc Dle.nil | exact Option.some_ne_none _ | exact Or.inl rfl | exact Or.inr trivial | omega | (simp only [Int.toNat_natCast] at *; omega) | (intro _ _ _ _; exact Dle.of_eq rfl) | (intro i j hi hj; exact row_fv (nEnv E0 hg) hlt i j hi hj) | refine And.intro ?_ ?_)⟩, by first | omega | (dsimp only; omega)⟩
              | trace_state
          · skip
            repeat' first
              | refine Or.inr ⟨_, _, _, tbl_f (nEnv E0 hg) hpm (by first | exact kn_any (by omega) | exact kn_nam (by omega) | exact kn_nam0 (by omega)), by kernel_rfl, (by repeat' first | (exact fin_n (nEnv E0 hg) (fin_p (fin_ff hb) ho) hd) | exact trivial | exact rfl | kernel_rfl | exact Dle.of_eq rfl | exact MLe.of_eq rfl | exact Dle.i (by omega) | exact Dle.i (by simp only [Int.toNat_natCast] at *; omega) | exact Dle.nil | exact Dle.rc Dle.nil | exact Option.some_ne_none _ | exact Or.inl rfl | exact Or.inr trivial | omega | (simp only [Int.toNat_natCast] at *; omega) | (intro _ _ _ _; exact Dle.of_eq rfl) | refine And.intro ?_ ?_), ?_⟩
              | (refine canW_r ?_)
              | (refine open_q1 fun pm hpm => ?_)
              | (refine Or.inr ⟨q1_no hpm, ?_⟩)
              | (refine ⟨_, _, rfl, hst _ _, ?_⟩)
              | (refine codeW_cond rfl ?_; first | (refine condW_dec ?_ ?_ <;> intro _ <;> try (exfalso; first | omega | (rename_i h; exact absurd (hb.symm.trans h) (by decide)))) | refine condW_not ?_ | (refine condW_bool ?_ ?_ <;> intro _ <;> try (exfalso; first | omega | (rename_i h; exact absurd (hb.symm.trans h) (by decide)))))
              | (refine facW_intro ?_; intro _)
              | refine Or.inl ?_
              | ((conv => whnf); first | (refine condW_dec ?_ ?_ <;> intro _ <;> try (exfalso; first | omega | (rename_i h; exact absurd (hb.symm.trans h) (by decide)))) | refine condW_not ?_ | (refine condW_bool ?_ ?_ <;> intro _ <;> try (exfalso; first | omega | (rename_i h; exact absurd (hb.symm.trans h) (by decide)))) | (refine nbC_t (fun _ => ?_) ?_) | (refine nbC_f ?_ (fun _ => ?_)))
              | refine And.intro (by first | omega | (simp only [Int.toNat_natCast] at *; omega) | (simp only [Nat.reduceAdd, Int.cast_ofNat_Int, true_and, and_true]; omega)  | (simp only [cx, view, Nat.reduceAdd, Int.toNat_natCast]; omega) | kernel_rfl) ?_
              | refine RegW.run ?_
              | refine ⟨_, text_sp (nEnv E0 hg) _, ?_⟩
              | refine ⟨_, truth_sp (nEnv E0 hg) _, ?_⟩
              | refine ⟨_, wholeR_sp (nEnv E0 hg) _, ?_⟩
              | refine ⟨_, htl, ?_⟩
              | fail
            all_goals first
              | (exfalso; omega)
              | exact ⟨k + 1, by omega, ⟨[(23, some 76)], ⟨by kernel_rfl, by kernel_rfl, by kernel_rfl, by kernel_rfl, by kernel_rfl, by kernel_rfl, by kernel_rfl⟩, (by repeat' first | exact trivial | exact rfl | kernel_rfl | exact Dle.of_eq rfl | exact MLe.of_eq rfl | exact Dle.i (by omega) | exact Dle.i (by simp only [Int.toNat_natCast] at *; omega) | exact Dle.nil | exact Dle.rc Dle.nil | exact Option.some_ne_none _ | exact Or.inl rfl | exact Or.inr trivial | omega | (simp only [Int.toNat_natCast] at *; omega) | (intro _ _ _ _; exact Dle.of_eq rfl) | (intro i j hi hj; exact row_fv (nEnv E0 hg) hlt i j hi hj) | refine And.intro ?_ ?_)⟩, by first | omega | (dsimp only; omega)⟩
              | trace_state
    · obtain rfl : k = l.length := by omega
      have htr := truth_sp (nEnv E0 hg) b
      have hck := confCheck_sp (nEnv E0 hg) (schV l b) (by have := cnt_le_wt (schV l b); omega)
      have htb := @tbl_s (nEnv E0 hg) l b l.length (fun i j => ((l.map fieldV).getD i .zero).cell j) rfl (fun _ _ _ _ => rfl)
      generalize schV l b = y at htb hck hr
      generalize checkE y = e at hck hr
      by_cases he : e = 0
      · have hr := hr.trans (if_neg (fun h => h he))
        subst hr
        repeat' first
          | (refine canW_r ?_)
          | (refine Or.inl (Or.inr ⟨⟨_, _, htb, ?_⟩⟩))
          | (refine open_all fun e9 => ?_)
          | (refine codeW_cond rfl ?_; first | (refine condW_dec ?_ ?_ <;> intro _ <;> try (exfalso; omega)) | refine condW_not ?_ | (refine condW_bool ?_ ?_ <;> intro _ <;> try (exfalso; omega)))
          | (refine facW_intro ?_; intro _)
          | refine Or.inl ?_
          | ((conv => whnf); first | (refine condW_dec ?_ ?_ <;> intro _ <;> try (exfalso; omega)) | refine condW_not ?_ | (refine condW_bool ?_ ?_ <;> intro _ <;> try (exfalso; omega)) | (refine nbC_t (fun _ => ?_) ?_) | (refine nbC_f ?_ (fun _ => ?_)))
          | refine And.intro (by first | omega | (simp only [Int.toNat_natCast] at *; omega) | (simp only [Nat.reduceAdd, Int.cast_ofNat_Int, true_and, and_true]; omega)  | (simp only [cx, view, Nat.reduceAdd, Int.toNat_natCast]; omega) | kernel_rfl) ?_
          | refine RegW.run ?_
          | refine ⟨_, htr, ?_⟩
          | refine ⟨_, hck, ?_⟩
          | fail
        all_goals first
          | (exfalso; omega)
          | exact tup2 (nEnv E0 hg) _ _
          | (rw [he]; exact tup2 (nEnv E0 hg) _ _)
          | trace_state
      · have hr := hr.trans (if_pos he)
        subst hr
        repeat' first
          | (refine canW_r ?_)
          | (refine Or.inl (Or.inr ⟨⟨_, _, htb, ?_⟩⟩))
          | (refine open_all fun e9 => ?_)
          | (refine codeW_cond rfl ?_; first | (refine condW_dec ?_ ?_ <;> intro _ <;> try (exfalso; omega)) | refine condW_not ?_ | (refine condW_bool ?_ ?_ <;> intro _ <;> try (exfalso; omega)))
          | (refine facW_intro ?_; intro _)
          | refine Or.inl ?_
          | ((conv => whnf); first | (refine condW_dec ?_ ?_ <;> intro _ <;> try (exfalso; omega)) | refine condW_not ?_ | (refine condW_bool ?_ ?_ <;> intro _ <;> try (exfalso; omega)) | (refine nbC_t (fun _ => ?_) ?_) | (refine nbC_f ?_ (fun _ => ?_)))
          | refine And.intro (by first | omega | (simp only [Int.toNat_natCast] at *; omega) | (simp only [Nat.reduceAdd, Int.cast_ofNat_Int, true_and, and_true]; omega)  | (simp only [cx, view, Nat.reduceAdd, Int.toNat_natCast]; omega) | kernel_rfl) ?_
          | refine RegW.run ?_
          | refine ⟨_, htr, ?_⟩
          | refine ⟨_, hck, ?_⟩
          | fail
        all_goals first
          | (exfalso; omega)
          | exact tup0 (nEnv E0 hg) _
          | trace_state
  · rw [if_pos h1] at hr
    subst hr
    refine Sp.body Tryz.func9 (by kernel_rfl) rfl (by kernel_rfl) (by kernel_rfl) (by kernel_rfl) ?_
    repeat' first
      | (refine codeW_cond rfl ?_; first | (refine condW_dec ?_ ?_ <;> intro _ <;> try (exfalso; omega)) | refine condW_not ?_ | (refine condW_bool ?_ ?_ <;> intro _ <;> try (exfalso; omega)))
      | (refine facW_intro ?_; intro _)
      | refine Or.inl ?_
      | ((conv => whnf); first | (refine condW_dec ?_ ?_ <;> intro _ <;> try (exfalso; omega)) | refine condW_not ?_ | (refine condW_bool ?_ ?_ <;> intro _ <;> try (exfalso; omega)) | (refine nbC_t (fun _ => ?_) ?_) | (refine nbC_f ?_ (fun _ => ?_)))
      | refine And.intro (by first | omega | (simp only [Int.toNat_natCast] at *; omega) | (simp only [Nat.reduceAdd, Int.cast_ofNat_Int, true_and, and_true]; omega)  | (simp only [cx, view, Nat.reduceAdd, Int.toNat_natCast]; omega) | kernel_rfl) ?_
      | refine RegW.run ?_
      | refine ⟨_, hcs, ?_⟩
      | fail
    all_goals first
      | (exfalso; omega)
      | exact tup0 E _
      | trace_state
end
end sw
end Go.Proofs.YtgdoelfajfjopaaGreatDoor
