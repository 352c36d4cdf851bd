/-
  A bundle's map read: mastref2.ReadMapOf over data.
-/
import Derived.Test.YtiiohopjkepkgaaGreatDoorMd5
namespace Go.Proofs.YtiiohopjkepkgaaGreatDoor
open Go.RowKit
set_option linter.unusedVariables false
set_option linter.unusedSimpArgs false
namespace md
open mp32
theorem readM_nil : readM ⟨#[]⟩ = ⟨[], [], 0⟩ := by
  unfold readM
  rw [lines_nil.1, lines_nil.2, if_neg (by decide), if_neg (by simp [allOk, allN]), if_neg (by simp [sm]), if_neg (by rw [show psP [] = [] from rfl, pfE_end (by simp)]; decide)]
  rfl
theorem sm_sR {ls : List ByteArray} (h : ∀ i, i < ls.length → lnOk (ls.getD i ⟨#[]⟩) = true) (hs : sR ls ls.length ≤ 200000) : ∀ i, i < ls.length → sR ls (i + 1) = sm ls (i + 1) := fun i hi => by
  have h1 := sR_mono h (j := i + 1) (k := ls.length) (by omega) (Nat.le_refl _)
  obtain ⟨_, _, _, _, h5⟩ := sm_cases (ls := ls) (k := i + 1) (by omega) (fun j hj => h j (by omega))
  omega
section
variable (E : Env)
set_option maxRecDepth 100000
theorem split10_sp (hML : ∀ w, E.G w → ML w) (s : ByteArray) (c : UInt8) (hs : s.size < 4294967281) : Sp (cx Tryz.prog mixed tyT_ok E) 43 [dS s, dS ⟨#[c]⟩] (encStrs (pcs s ⟨#[c]⟩)) := split_sp E hML s ⟨#[c]⟩ hs (by show 1 ≤ 1; omega)
theorem trim32_sp (s : ByteArray) : Sp (cx Tryz.prog mixed tyT_ok E) 45 [dS s, dS tabD] (dS (trimV s tabD)) := trim_sp E s tabD (by decide) (by decide)
set_option maxHeartbeats 16000000 in
theorem readMapOf_sp (hML : ∀ w, E.G w → ML w) (hER : ∀ w, E.G w → ER w) (s : ByteArray) : Sp (cx Tryz.prog mixed tyT_ok E) 11 [dS s] (encBun (readM s)) := by
  obtain ⟨r, hr⟩ : ∃ r, r = readM s := ⟨_, rfl⟩
  rw [← hr]
  by_cases hbig : 20000 < s.size
  · unfold readM at hr
    rw [if_pos hbig] at hr
    refine Sp.body Tryz.func11 (by kernel_rfl) rfl (by kernel_rfl) (by kernel_rfl) (by kernel_rfl) ?_
    repeat' first
      | (refine codeW_cond rfl ?_; first | (refine condW_dec ?_ ?_ <;> intro _ <;> try (exfalso; omega)) | refine condW_not ?_ | (refine condW_bool ?_ ?_ <;> intro _ <;> try (exfalso; omega)))
      | (refine facW_intro ?_; intro _)
      | refine Or.inl ?_
      | ((conv => whnf); first | (refine condW_dec ?_ ?_ <;> intro _ <;> try (exfalso; omega)) | refine condW_not ?_ | (refine condW_bool ?_ ?_ <;> intro _ <;> try (exfalso; omega)) | (refine nbC_t (fun _ => ?_) ?_) | (refine nbC_f ?_ (fun _ => ?_)))
      | refine And.intro (by first | omega | (simp only [Int.toNat_natCast] at *; omega) | (simp only [Nat.reduceAdd, Int.cast_ofNat_Int, true_and, and_true]; omega) | kernel_rfl) ?_
      | refine RegW.run ?_
      | fail
    all_goals first
      | (exfalso; omega)
      | exact dle_errB E hr
      | trace_state
  · by_cases h0 : s = ⟨#[]⟩
    · have hr : r = ⟨[], [], 0⟩ := by rw [hr, h0, readM_nil]
      have hD : Dle (cx Tryz.prog mixed tyT_ok E) (.tup [.agg [dS ⟨#[]⟩, .v (.slice none 0 0), .v (.slice none 0 0)], i64 0]) (encBun r) := by
        rw [hr]
        exact Dle.tup (X := (cx Tryz.prog mixed tyT_ok E)) ⟨Dle.agg (X := (cx Tryz.prog mixed tyT_ok E)) ⟨Dle.refl _ _, Dle.nil (X := (cx Tryz.prog mixed tyT_ok E)), Dle.nil (X := (cx Tryz.prog mixed tyT_ok E)), trivial⟩, Dle.refl _ _, trivial⟩
      refine Sp.body Tryz.func11 (by kernel_rfl) rfl (by kernel_rfl) (by kernel_rfl) (by kernel_rfl) ?_
      repeat' first
        | (refine codeW_cond rfl ?_; first | (refine condW_dec ?_ ?_ <;> intro _ <;> try (exfalso; omega)) | refine condW_not ?_ | (refine condW_bool ?_ ?_ <;> intro _ <;> try (exfalso; omega)))
        | (refine facW_intro ?_; intro _)
        | refine Or.inl ?_
        | ((conv => whnf); first | (refine condW_dec ?_ ?_ <;> intro _ <;> try (exfalso; omega)) | refine condW_not ?_ | (refine condW_bool ?_ ?_ <;> intro _ <;> try (exfalso; omega)) | (refine nbC_t (fun _ => ?_) ?_) | (refine nbC_f ?_ (fun _ => ?_)))
        | refine And.intro (by first | omega | (simp only [Int.toNat_natCast] at *; omega) | (simp only [Nat.reduceAdd, Int.cast_ofNat_Int, true_and, and_true]; omega) | kernel_rfl) ?_
        | refine RegW.run ?_
        | fail
      all_goals first
        | (exfalso; omega)
        | exact hD
        | (exfalso; rename_i h; exact h h0)
        | trace_state
    · unfold readM at hr
      rw [if_neg hbig] at hr
      have h1 := suf_sp E s ⟨#[10]⟩
      cases hsf : sufS s ⟨#[10]⟩
      · rw [hsf] at h1
        rw [if_pos (.inl (lines_no h0 hsf))] at hr
        refine Sp.body Tryz.func11 (by kernel_rfl) rfl (by kernel_rfl) (by kernel_rfl) (by kernel_rfl) ?_
        repeat' first
          | (refine codeW_cond rfl ?_; first | (refine condW_dec ?_ ?_ <;> intro _ <;> try (exfalso; omega)) | refine condW_not ?_ | (refine condW_bool ?_ ?_ <;> intro _ <;> try (exfalso; omega)))
          | (refine facW_intro ?_; intro _)
          | refine Or.inl ?_
          | ((conv => whnf); first | (refine condW_dec ?_ ?_ <;> intro _ <;> try (exfalso; omega)) | refine condW_not ?_ | (refine condW_bool ?_ ?_ <;> intro _ <;> try (exfalso; omega)) | (refine nbC_t (fun _ => ?_) ?_) | (refine nbC_f ?_ (fun _ => ?_)))
          | refine And.intro (by first | omega | (simp only [Int.toNat_natCast] at *; omega) | (simp only [Nat.reduceAdd, Int.cast_ofNat_Int, true_and, and_true]; omega) | kernel_rfl) ?_
          | refine RegW.run ?_
          | refine ⟨_, h1, ?_⟩
          | fail
        all_goals first
          | (exfalso; omega)
          | (exfalso; exact h0 (by assumption))
          | exact dle_errB E hr
          | (exfalso; rename_i h; cases h; done)
          | trace_state
      · rw [hsf] at h1
        obtain ⟨hls, hlast⟩ := lines_yes hsf
        have hlz : (lnsP s).length ≤ 20000 := by
          have := pcs_len10 s
          have := lnsP_len s
          omega
        have h2 := trimSuf_sp E s ⟨#[10]⟩ hsf
        have hsz : (s.extract 0 (s.size - 1)).size ≤ 20000 := by rw [ByteArray.size_extract]; omega
        have h3 := split10_sp E hML (s.extract 0 (s.size - (⟨#[10]⟩ : ByteArray).size)) 10 (show (s.extract 0 (s.size - 1)).size < _ by omega)
        have e3 : pcs (s.extract 0 (s.size - (⟨#[10]⟩ : ByteArray).size)) ⟨#[10]⟩ = lnsP s := hls.symm
        rw [e3] at h3
        unfold encStrs at h3
        generalize s.extract 0 (s.size - (⟨#[10]⟩ : ByteArray).size) = t at h2 h3
        have hlsz : ∀ k, ((lnsP s).getD k ⟨#[]⟩).size ≤ 20000 := fun k => by
          by_cases hk : k < (lnsP s).length
          · have hm : (lnsP s).getD k ⟨#[]⟩ ∈ lnsP s := by
              rw [List.getD_eq_getElem?_getD, List.getElem?_eq_getElem hk]
              exact List.getElem_mem _
            have := lnsP_size s _ hm
            omega
          · rw [List.getD_eq_getElem?_getD, List.getElem?_eq_none (by omega)]
            exact Nat.zero_le _
        generalize lnsP s = ls at *
        have hn1 : ¬ (lastP s ≠ ⟨#[]⟩) := fun h => h hlast
        refine Sp.body Tryz.func11 (by kernel_rfl) rfl (by kernel_rfl) (by kernel_rfl) (by kernel_rfl) ?_
        repeat' first
          | (refine codeW_cond rfl ?_; first | (refine condW_dec ?_ ?_ <;> intro _ <;> try (exfalso; omega)) | refine condW_not ?_ | (refine condW_bool ?_ ?_ <;> intro _ <;> try (exfalso; omega)))
          | (refine facW_intro ?_; intro _)
          | refine Or.inl ?_
          | ((conv => whnf); first | (refine condW_dec ?_ ?_ <;> intro _ <;> try (exfalso; omega)) | refine condW_not ?_ | (refine condW_bool ?_ ?_ <;> intro _ <;> try (exfalso; omega)) | (refine nbC_t (fun _ => ?_) ?_) | (refine nbC_f ?_ (fun _ => ?_)))
          | refine And.intro (by first | omega | (simp only [Int.toNat_natCast] at *; omega) | (simp only [Nat.reduceAdd, Int.cast_ofNat_Int, true_and, and_true]; omega) | kernel_rfl) ?_
          | refine RegW.run ?_
          | refine ⟨_, h1, ?_⟩
          | refine ⟨_, h2, ?_⟩
          | refine ⟨_, h3, ?_⟩
          | fail
        all_goals try (exfalso; first | omega | exact h0 (by assumption))
        all_goals try (exfalso; rename_i h; exact h rfl)
        refine ⟨Nat, fun k => [(31, i64 k), (5, .own 9 1 0 k)], fun k => [(4, .cells [dS ⟨#[]⟩, .own 31 1 0 k, .v (.slice none 0 0)])], [2], fun k => [(31, 9, k, fun i _ => dS ((psP ls).getD i ⟨#[]⟩)), (9, 3, k, fun i _ => i64 (szR (ls.getD i ⟨#[]⟩)))], fun k => k ≤ ls.length ∧ (∀ i, i < k → lnOk (ls.getD i ⟨#[]⟩) = true), fun k => ls.length - k, ⟨0, ⟨Nat.zero_le _, fun i hi => by omega⟩, ⟨[(31, none), (9, none)], ⟨by kernel_rfl, by kernel_rfl, by kernel_rfl, by kernel_rfl, by kernel_rfl, by kernel_rfl, by kernel_rfl⟩, (by repeat' first | exact trivial | exact rfl | kernel_rfl | exact Dle.of_eq rfl | exact MLe.of_eq rfl | exact Dle.i (by omega) | exact Dle.i (by simp only [Int.toNat_natCast] at *; omega) | exact Dle.nil | exact Dle.rc Dle.nil | exact Option.some_ne_none _ | exact Or.inl rfl | exact Or.inr trivial | omega | (simp only [Int.toNat_natCast] at *; omega) | (intro _ _ _ _; exact Dle.of_eq rfl) | refine And.intro ?_ ?_)⟩⟩, fun k hk => ?_⟩
        obtain ⟨hk, hok⟩ := hk
        by_cases hlt : k < ls.length
        · have hLz := hlsz k
          have g1 := split10_sp E hML (ls.getD ((k : Int)).toNat ⟨#[]⟩) 32 (show (ls.getD k ⟨#[]⟩).size < _ by omega)
          have eL : ls.getD ((k : Int)).toNat ⟨#[]⟩ = ls.getD k ⟨#[]⟩ := rfl
          unfold encStrs at g1
          have hpk := psP_at hlt
          cases hlo : lnOk (ls.getD k ⟨#[]⟩)
          · have hr2 : r = errB 8 := by rw [if_pos (.inr (allOk_no hlt hlo))] at hr; exact hr
            have hno : ¬ lnR (ls.getD k ⟨#[]⟩) := fun h => by rw [(ln_iff _).2 h] at hlo; cases hlo
            unfold lnR at hno
            rw [eL] at g1
            generalize pcs (ls.getD k ⟨#[]⟩) ⟨#[32]⟩ = w at g1 hno
            by_cases hw : w.length = 2
            · obtain ⟨a, b, rfl⟩ : ∃ a b, w = [a, b] := by
                match w, hw with
                | [a, b], _ => exact ⟨a, b, rfl⟩
              have g2 := trim32_sp E b
              have hno : ¬ (a ≠ ⟨#[]⟩ ∧ b ≠ ⟨#[]⟩ ∧ trimV b tabD = ⟨#[]⟩ ∧ ¬ (1 < b.size ∧ (bAt b 0).toNat = 48)) := fun ⟨q1, q2, q3, q4⟩ => hno ⟨rfl, q1, q2, q3, q4⟩
              generalize trimV b tabD = z at g2 hno
              repeat' first
                | (refine codeW_cond rfl ?_; first | (refine condW_dec ?_ ?_ <;> intro _ <;> try (exfalso; omega)) | refine condW_not ?_ | (refine condW_bool ?_ ?_ <;> intro _ <;> try (exfalso; omega)))
                | (refine facW_intro ?_; intro _)
                | refine Or.inl ?_
                | ((conv => whnf); first | (refine condW_dec ?_ ?_ <;> intro _ <;> try (exfalso; omega)) | refine condW_not ?_ | (refine condW_bool ?_ ?_ <;> intro _ <;> try (exfalso; omega)) | (refine nbC_t (fun _ => ?_) ?_) | (refine nbC_f ?_ (fun _ => ?_)))
                | refine And.intro (by first | omega | (simp only [Int.toNat_natCast] at *; omega) | (simp only [Nat.reduceAdd, Int.cast_ofNat_Int, true_and, and_true]; omega) | kernel_rfl) ?_
                | refine RegW.run ?_
                | refine ⟨_, g1, ?_⟩
                | refine ⟨_, g2, ?_⟩
                | fail
              all_goals first
                | exact dle_errB E hr2
                | (exfalso; omega)
                | (exfalso
                   refine hno ⟨by assumption, by assumption, by assumption, fun ⟨q1, q2⟩ => ?_⟩
                   first
                     | (have h9 : ¬ ((((bAt b 0).toNat : Nat)) : Int) = 48 := by assumption
                        omega)
                     | (have h9 : ¬ (1 : Int) < (b.size : Int) := by assumption
                        omega))
                | trace_state
            · repeat' first
                | (refine codeW_cond rfl ?_; first | (refine condW_dec ?_ ?_ <;> intro _ <;> try (exfalso; omega)) | refine condW_not ?_ | (refine condW_bool ?_ ?_ <;> intro _ <;> try (exfalso; omega)))
                | (refine facW_intro ?_; intro _)
                | refine Or.inl ?_
                | ((conv => whnf); first | (refine condW_dec ?_ ?_ <;> intro _ <;> try (exfalso; omega)) | refine condW_not ?_ | (refine condW_bool ?_ ?_ <;> intro _ <;> try (exfalso; omega)) | (refine nbC_t (fun _ => ?_) ?_) | (refine nbC_f ?_ (fun _ => ?_)))
                | refine And.intro (by first | omega | (simp only [Int.toNat_natCast] at *; omega) | (simp only [Nat.reduceAdd, Int.cast_ofNat_Int, true_and, and_true]; omega) | kernel_rfl) ?_
                | refine RegW.run ?_
                | refine ⟨_, g1, ?_⟩
                | fail
              all_goals first
                | exact dle_errB E hr2
                | (exfalso; omega)
                | trace_state
          · have hb := sz_b hlo
            obtain ⟨a1, a2, a3⟩ := (lnOk_iff _).1 hlo
            obtain ⟨b1, b2, b3⟩ := (szOk_iff _).1 a2
            rw [eL, ln_pcs hlo] at g1
            have hcz := cut_size 32 (ls.getD k ⟨#[]⟩)
            have g2 := trim32_sp E (cR 32 (ls.getD k ⟨#[]⟩))
            rw [(dgs_trim _).2 b3] at g2
            have g3 := parse_sp E hER (cR 32 (ls.getD k ⟨#[]⟩)) b1 (by omega) b3
            have eR : szR (ls.getD k ⟨#[]⟩) = min ((valN 0 (cR 32 (ls.getD k ⟨#[]⟩)).data.toList : Nat) : Int) 200001 := rfl
            have hb4 : 1 < (cR 32 (ls.getD k ⟨#[]⟩)).size → (bAt (cR 32 (ls.getD k ⟨#[]⟩)) 0).toNat = 48 → False := fun q1 q2 => b2 ⟨q2, fun e => by rw [e] at q1; exact absurd q1 (by decide)⟩
            generalize valN 0 (cR 32 (ls.getD k ⟨#[]⟩)).data.toList = N at g3 eR
            have hokn : ∀ i, i < k + 1 → lnOk (ls.getD i ⟨#[]⟩) = true := fun i hi => if hik : i = k then hik ▸ hlo else hok i (by omega)
            generalize cR 32 (ls.getD k ⟨#[]⟩) = b at *
            generalize cL 32 (ls.getD k ⟨#[]⟩) = a at *
            have hw : [a, b].length = 2 := rfl
            have q48 : (1 : Int) < ((([a, b].getD (Int.toNat 1) ⟨#[]⟩).size : Nat) : Int) → ¬ ((((bAt ([a, b].getD (Int.toNat 1) ⟨#[]⟩) (Int.toNat 0)).toNat : Nat)) : Int) = 48 := fun h1 h2 => hb4 (by have h1 : (1 : Int) < (b.size : Int) := h1; omega) (by have h2 : (((bAt b 0).toNat : Nat) : Int) = 48 := h2; omega)
            by_cases hN : N < 9223372036854775808
            · rw [if_pos hN] at g3
              by_cases hN2 : N ≤ 200000
              · have eR : szR (ls.getD k ⟨#[]⟩) = (N : Int) := by omega
                repeat' first
                  | (refine codeW_cond rfl ?_; first | (refine condW_dec ?_ ?_ <;> intro _ <;> try (exfalso; omega)) | refine condW_not ?_ | (refine condW_bool ?_ ?_ <;> intro _ <;> try (exfalso; omega)))
                  | (refine facW_intro ?_; intro _)
                  | refine Or.inl ?_
                  | ((conv => whnf); first | (refine condW_dec ?_ ?_ <;> intro _ <;> try (exfalso; omega)) | refine condW_not ?_ | (refine condW_bool ?_ ?_ <;> intro _ <;> try (exfalso; omega)) | (refine nbC_t (fun _ => ?_) ?_) | (refine nbC_f ?_ (fun _ => ?_)))
                  | refine And.intro (by first | omega | (simp only [Int.toNat_natCast] at *; omega) | (simp only [Nat.reduceAdd, Int.cast_ofNat_Int, true_and, and_true]; omega) | kernel_rfl) ?_
                  | refine RegW.run ?_
                  | refine ⟨_, g1, ?_⟩
                  | refine ⟨_, g2, ?_⟩
                  | refine ⟨_, g3, ?_⟩
                  | fail
                all_goals first
                  | (exfalso; omega)
                  | (exfalso; first | exact a3 (by assumption) | exact b1 (by assumption) | (rename_i h; exact h rfl) | exact q48 (by assumption) (by assumption))
                  | exact ⟨k + 1, ⟨by omega, hokn⟩, ⟨[(31, some 93), (9, some 98)], ⟨by kernel_rfl, by kernel_rfl, by kernel_rfl, by kernel_rfl, by kernel_rfl, by kernel_rfl, by kernel_rfl⟩, (by repeat' first | exact trivial | exact rfl | kernel_rfl | exact Dle.of_eq rfl | exact MLe.of_eq rfl | exact Dle.i (by omega) | exact Dle.i (by simp only [Int.toNat_natCast] at *; omega) | exact Dle.nil | exact Dle.rc Dle.nil | exact Option.some_ne_none _ | exact Or.inl rfl | exact Or.inr trivial | omega | (simp only [Int.toNat_natCast] at *; omega) | (intro _ _ _ _; exact Dle.of_eq rfl) | (intro i j hi hj; (first | exact row_g E (fun i => dS ((psP ls).getD i ⟨#[]⟩)) _ k (by rw [hpk]; rfl) i j (by omega) hj | exact row_g E (fun i => i64 (szR (ls.getD i ⟨#[]⟩))) _ k (by rw [eR]) i j (by omega) hj)) | refine And.intro ?_ ?_)⟩, by first | omega | (dsimp only; omega)⟩
                  | trace_state
              · have eR : szR (ls.getD k ⟨#[]⟩) = 200001 := by omega
                repeat' first
                  | (refine codeW_cond rfl ?_; first | (refine condW_dec ?_ ?_ <;> intro _ <;> try (exfalso; omega)) | refine condW_not ?_ | (refine condW_bool ?_ ?_ <;> intro _ <;> try (exfalso; omega)))
                  | (refine facW_intro ?_; intro _)
                  | refine Or.inl ?_
                  | ((conv => whnf); first | (refine condW_dec ?_ ?_ <;> intro _ <;> try (exfalso; omega)) | refine condW_not ?_ | (refine condW_bool ?_ ?_ <;> intro _ <;> try (exfalso; omega)) | (refine nbC_t (fun _ => ?_) ?_) | (refine nbC_f ?_ (fun _ => ?_)))
                  | refine And.intro (by first | omega | (simp only [Int.toNat_natCast] at *; omega) | (simp only [Nat.reduceAdd, Int.cast_ofNat_Int, true_and, and_true]; omega) | kernel_rfl) ?_
                  | refine RegW.run ?_
                  | refine ⟨_, g1, ?_⟩
                  | refine ⟨_, g2, ?_⟩
                  | refine ⟨_, g3, ?_⟩
                  | fail
                all_goals first
                  | (exfalso; omega)
                  | (exfalso; first | exact a3 (by assumption) | exact b1 (by assumption) | (rename_i h; exact h rfl) | exact q48 (by assumption) (by assumption))
                  | exact ⟨k + 1, ⟨by omega, hokn⟩, ⟨[(31, some 93), (9, some 98)], ⟨by kernel_rfl, by kernel_rfl, by kernel_rfl, by kernel_rfl, by kernel_rfl, by kernel_rfl, by kernel_rfl⟩, (by repeat' first | exact trivial | exact rfl | kernel_rfl | exact Dle.of_eq rfl | exact MLe.of_eq rfl | exact Dle.i (by omega) | exact Dle.i (by simp only [Int.toNat_natCast] at *; omega) | exact Dle.nil | exact Dle.rc Dle.nil | exact Option.some_ne_none _ | exact Or.inl rfl | exact Or.inr trivial | omega | (simp only [Int.toNat_natCast] at *; omega) | (intro _ _ _ _; exact Dle.of_eq rfl) | (intro i j hi hj; (first | exact row_g E (fun i => dS ((psP ls).getD i ⟨#[]⟩)) _ k (by rw [hpk]; rfl) i j (by omega) hj | exact row_g E (fun i => i64 (szR (ls.getD i ⟨#[]⟩))) _ k (by rw [eR]) i j (by omega) hj)) | refine And.intro ?_ ?_)⟩, by first | omega | (dsimp only; omega)⟩
                  | trace_state
            · rw [if_neg hN] at g3
              have eR : szR (ls.getD k ⟨#[]⟩) = 200001 := by omega
              repeat' first
                | (refine codeW_cond rfl ?_; first | (refine condW_dec ?_ ?_ <;> intro _ <;> try (exfalso; omega)) | refine condW_not ?_ | (refine condW_bool ?_ ?_ <;> intro _ <;> try (exfalso; omega)))
                | (refine facW_intro ?_; intro _)
                | refine Or.inl ?_
                | ((conv => whnf); first | (refine condW_dec ?_ ?_ <;> intro _ <;> try (exfalso; omega)) | refine condW_not ?_ | (refine condW_bool ?_ ?_ <;> intro _ <;> try (exfalso; omega)) | (refine nbC_t (fun _ => ?_) ?_) | (refine nbC_f ?_ (fun _ => ?_)))
                | refine And.intro (by first | omega | (simp only [Int.toNat_natCast] at *; omega) | (simp only [Nat.reduceAdd, Int.cast_ofNat_Int, true_and, and_true]; omega) | kernel_rfl) ?_
                | refine RegW.run ?_
                | refine ⟨_, g1, ?_⟩
                | refine ⟨_, g2, ?_⟩
                | refine ⟨_, g3, ?_⟩
                | fail
              all_goals first
                | (exfalso; omega)
                | (exfalso; first | exact a3 (by assumption) | exact b1 (by assumption) | (rename_i h; exact h rfl) | (rename_i h; cases h; done) | exact q48 (by assumption) (by assumption))
                | exact ⟨k + 1, ⟨by omega, hokn⟩, ⟨[(31, some 93), (9, some 98)], ⟨by kernel_rfl, by kernel_rfl, by kernel_rfl, by kernel_rfl, by kernel_rfl, by kernel_rfl, by kernel_rfl⟩, (by repeat' first | exact trivial | exact rfl | kernel_rfl | exact Dle.of_eq rfl | exact MLe.of_eq rfl | exact Dle.i (by omega) | exact Dle.i (by simp only [Int.toNat_natCast] at *; omega) | exact Dle.nil | exact Dle.rc Dle.nil | exact Option.some_ne_none _ | exact Or.inl rfl | exact Or.inr trivial | omega | (simp only [Int.toNat_natCast] at *; omega) | (intro _ _ _ _; exact Dle.of_eq rfl) | (intro i j hi hj; (first | exact row_g E (fun i => dS ((psP ls).getD i ⟨#[]⟩)) _ k (by rw [hpk]; rfl) i j (by omega) hj | exact row_g E (fun i => i64 (szR (ls.getD i ⟨#[]⟩))) _ k (by rw [eR]) i j (by omega) hj)) | refine And.intro ?_ ?_)⟩, by first | omega | (dsimp only; omega)⟩
                | trace_state
        · obtain rfl : k = ls.length := by omega
          have hA := allOk_yes hok
          rw [if_neg (by rw [hA]; simp [hlast])] at hr
          obtain ⟨p1, p2, p3, p4, p5⟩ := sm_cases (ls := ls) (k := ls.length) (Nat.le_refl _) hok
          have hpl := psP_len ls
          by_cases h40 : 40 < ls.length
          · rw [if_pos (.inl h40)] at hr
            repeat' first
              | (refine codeW_cond rfl ?_; first | (refine condW_dec ?_ ?_ <;> intro _ <;> try (exfalso; omega)) | refine condW_not ?_ | (refine condW_bool ?_ ?_ <;> intro _ <;> try (exfalso; omega)))
              | (refine facW_intro ?_; intro _)
              | refine Or.inl ?_
              | ((conv => whnf); first | (refine condW_dec ?_ ?_ <;> intro _ <;> try (exfalso; omega)) | refine condW_not ?_ | (refine condW_bool ?_ ?_ <;> intro _ <;> try (exfalso; omega)) | (refine nbC_t (fun _ => ?_) ?_) | (refine nbC_f ?_ (fun _ => ?_)))
              | refine And.intro (by first | omega | (simp only [Int.toNat_natCast] at *; omega) | (simp only [Nat.reduceAdd, Int.cast_ofNat_Int, true_and, and_true]; omega) | kernel_rfl) ?_
              | refine RegW.run ?_
              | fail
            all_goals first
              | (exfalso; omega)
              | exact dle_errB E hr
              | trace_state
          · repeat' first
              | (refine codeW_cond rfl ?_; first | (refine condW_dec ?_ ?_ <;> intro _ <;> try (exfalso; omega)) | refine condW_not ?_ | (refine condW_bool ?_ ?_ <;> intro _ <;> try (exfalso; omega)))
              | (refine facW_intro ?_; intro _)
              | refine Or.inl ?_
              | ((conv => whnf); first | (refine condW_dec ?_ ?_ <;> intro _ <;> try (exfalso; omega)) | refine condW_not ?_ | (refine condW_bool ?_ ?_ <;> intro _ <;> try (exfalso; omega)) | (refine nbC_t (fun _ => ?_) ?_) | (refine nbC_f ?_ (fun _ => ?_)))
              | refine And.intro (by first | omega | (simp only [Int.toNat_natCast] at *; omega) | (simp only [Nat.reduceAdd, Int.cast_ofNat_Int, true_and, and_true]; omega) | kernel_rfl) ?_
              | refine RegW.run ?_
              | fail
            all_goals try (exfalso; omega)
            refine ⟨Nat, fun q => [(107, i64 q), (11, i64 (sR ls q))], fun q => [(4, .cells [dS ⟨#[]⟩, .own 31 1 0 ls.length, .own 107 1 0 q])], [2, 31, 9], fun q => [(107, 3, q, fun i _ => i64 (sR ls (i + 1)))], fun q => q ≤ ls.length ∧ sR ls q ≤ 200000, fun q => ls.length - q, ⟨0, ⟨Nat.zero_le _, by show (0 : Int) ≤ _; decide⟩, ⟨[(107, none)], ⟨by kernel_rfl, by kernel_rfl, by kernel_rfl, by kernel_rfl, by kernel_rfl, by kernel_rfl, by kernel_rfl⟩, (by repeat' first | exact trivial | exact rfl | kernel_rfl | exact Dle.of_eq rfl | exact MLe.of_eq rfl | exact Dle.i (by omega) | exact Dle.i (by simp only [Int.toNat_natCast] at *; omega) | exact Dle.nil | exact Dle.rc Dle.nil | exact Option.some_ne_none _ | exact Or.inl rfl | exact Or.inr trivial | omega | (simp only [Int.toNat_natCast] at *; omega) | (intro _ _ _ _; exact Dle.of_eq rfl) | refine And.intro ?_ ?_)⟩⟩, fun q hq => ?_⟩
            obtain ⟨hq, hqs⟩ := hq
            by_cases hql : q < ls.length
            · have e0 : szR (ls.getD (0 + ((q : Int)).toNat) ⟨#[]⟩) = szR (ls.getD q ⟨#[]⟩) := by rw [Nat.zero_add]; rfl
              have e1 : sR ls (q + 1) = sR ls q + szR (ls.getD (0 + ((q : Int)).toNat) ⟨#[]⟩) := by rw [e0]; rfl
              obtain ⟨_, _, f1, f2, _⟩ := sz_b (hok q hql)
              rw [← e0] at f1 f2
              obtain ⟨_, _, f3, _⟩ := sm_cases (ls := ls) (k := q) (by omega) (fun i hi => hok i (by omega))
              by_cases hbg : 200000 < sR ls (q + 1)
              · have f4 := sR_mono hok (j := q + 1) (k := ls.length) (by omega) (Nat.le_refl _)
                rw [if_pos (.inr (by omega))] at hr
                repeat' first
                  | (refine codeW_cond rfl ?_; first | (refine condW_dec ?_ ?_ <;> intro _ <;> try (exfalso; omega)) | refine condW_not ?_ | (refine condW_bool ?_ ?_ <;> intro _ <;> try (exfalso; omega)))
                  | (refine facW_intro ?_; intro _)
                  | refine Or.inl ?_
                  | ((conv => whnf); first | (refine condW_dec ?_ ?_ <;> intro _ <;> try (exfalso; omega)) | refine condW_not ?_ | (refine condW_bool ?_ ?_ <;> intro _ <;> try (exfalso; omega)) | (refine nbC_t (fun _ => ?_) ?_) | (refine nbC_f ?_ (fun _ => ?_)))
                  | refine And.intro (by first | omega | (simp only [Int.toNat_natCast] at *; omega) | (simp only [Nat.reduceAdd, Int.cast_ofNat_Int, true_and, and_true]; omega) | kernel_rfl) ?_
                  | refine RegW.run ?_
                  | fail
                all_goals first
                  | (exfalso; omega)
                  | exact dle_errB E hr
                  | trace_state
              · repeat' first
                  | (refine codeW_cond rfl ?_; first | (refine condW_dec ?_ ?_ <;> intro _ <;> try (exfalso; omega)) | refine condW_not ?_ | (refine condW_bool ?_ ?_ <;> intro _ <;> try (exfalso; omega)))
                  | (refine facW_intro ?_; intro _)
                  | refine Or.inl ?_
                  | ((conv => whnf); first | (refine condW_dec ?_ ?_ <;> intro _ <;> try (exfalso; omega)) | refine condW_not ?_ | (refine condW_bool ?_ ?_ <;> intro _ <;> try (exfalso; omega)) | (refine nbC_t (fun _ => ?_) ?_) | (refine nbC_f ?_ (fun _ => ?_)))
                  | refine And.intro (by first | omega | (simp only [Int.toNat_natCast] at *; omega) | (simp only [Nat.reduceAdd, Int.cast_ofNat_Int, true_and, and_true]; omega) | kernel_rfl) ?_
                  | refine RegW.run ?_
                  | fail
                all_goals first
                  | (exfalso; omega)
                  | exact ⟨q + 1, ⟨by omega, by omega⟩, ⟨[(107, some 121)], ⟨by kernel_rfl, by kernel_rfl, by kernel_rfl, by kernel_rfl, by kernel_rfl, by kernel_rfl, by kernel_rfl⟩, (by repeat' first | exact trivial | exact rfl | kernel_rfl | exact Dle.of_eq rfl | exact MLe.of_eq rfl | exact Dle.i (by omega) | exact Dle.i (by simp only [Int.toNat_natCast] at *; omega) | exact Dle.nil | exact Dle.rc Dle.nil | exact Option.some_ne_none _ | exact Or.inl rfl | exact Or.inr trivial | omega | (simp only [Int.toNat_natCast] at *; omega) | (intro _ _ _ _; exact Dle.of_eq rfl) | (intro i j hi hj; exact row_g E (fun i => i64 (sR ls (i + 1))) _ q (by rw [e1]) i j (by omega) hj) | refine And.intro ?_ ?_)⟩, by first | omega | (dsimp only; omega)⟩
                  | trace_state
            · obtain rfl : q = ls.length := by omega
              rw [if_neg (by omega)] at hr
              repeat' first
                | (refine codeW_cond rfl ?_; first | (refine condW_dec ?_ ?_ <;> intro _ <;> try (exfalso; omega)) | refine condW_not ?_ | (refine condW_bool ?_ ?_ <;> intro _ <;> try (exfalso; omega)))
                | (refine facW_intro ?_; intro _)
                | refine Or.inl ?_
                | ((conv => whnf); first | (refine condW_dec ?_ ?_ <;> intro _ <;> try (exfalso; omega)) | refine condW_not ?_ | (refine condW_bool ?_ ?_ <;> intro _ <;> try (exfalso; omega)) | (refine nbC_t (fun _ => ?_) ?_) | (refine nbC_f ?_ (fun _ => ?_)))
                | refine And.intro (by first | omega | (simp only [Int.toNat_natCast] at *; omega) | (simp only [Nat.reduceAdd, Int.cast_ofNat_Int, true_and, and_true]; omega) | kernel_rfl) ?_
                | refine RegW.run ?_
                | fail
              all_goals try (exfalso; omega)
              refine ⟨Nat, fun m => [(127, i64 m)], fun m => [], [4, 2, 31, 107], fun m => [], fun m => m ≤ ls.length ∧ pfE (psP ls) 0 = pfE (psP ls) m, fun m => ls.length - m, ⟨0, ⟨Nat.zero_le _, rfl⟩, ⟨[], ⟨by kernel_rfl, by kernel_rfl, by kernel_rfl, by kernel_rfl, by kernel_rfl, by kernel_rfl, by kernel_rfl⟩, (by repeat' first | exact trivial | exact rfl | kernel_rfl | exact Dle.of_eq rfl | exact MLe.of_eq rfl | exact Dle.i (by omega) | exact Dle.i (by simp only [Int.toNat_natCast] at *; omega) | exact Dle.nil | exact Dle.rc Dle.nil | exact Option.some_ne_none _ | exact Or.inl rfl | exact Or.inr trivial | omega | (simp only [Int.toNat_natCast] at *; omega) | (intro _ _ _ _; exact Dle.of_eq rfl) | refine And.intro ?_ ?_)⟩⟩, fun m hm => ?_⟩
              obtain ⟨hm, hE⟩ := hm
              by_cases hml : m < ls.length
              · have hml2 : m < (psP ls).length := by omega
                have gp := r_isPath_sp E hML ((psP ls).getD (0 + ((m : Int)).toNat) ⟨#[]⟩)
                have hp0 : pathB ((psP ls).getD (0 + ((m : Int)).toNat) ⟨#[]⟩) = pathB ((psP ls).getD m ⟨#[]⟩) := by rw [Nat.zero_add]; rfl
                have hk0 : inK (psP ls) m ((psP ls).getD (0 + ((m : Int)).toNat) ⟨#[]⟩) = inK (psP ls) m ((psP ls).getD m ⟨#[]⟩) := by rw [Nat.zero_add]; rfl
                have gc := contL_sp E 31 (psP ls) ls.length m ((psP ls).getD (0 + ((m : Int)).toNat) ⟨#[]⟩) (by omega) (by omega)
                rw [hp0] at gp
                rw [hk0] at gc
                have n1 := pfE_path hml2
                have n2 := pfE_dup hml2
                have n3 := pfE_next hml2
                generalize pathB ((psP ls).getD m ⟨#[]⟩) = bp at gp n1 n2 n3
                generalize inK (psP ls) m ((psP ls).getD m ⟨#[]⟩) = bk at gc n2 n3
                cases bp
                · have hr2 : r = errB 3 := by rw [hE, n1 (by decide), if_pos (by decide)] at hr; exact hr
                  repeat' first
                    | refine Or.inr ⟨_, _, _, gc, by kernel_rfl, (by repeat' first | exact trivial | exact rfl | kernel_rfl | exact Dle.of_eq rfl | exact MLe.of_eq rfl | exact Dle.i (by omega) | exact Dle.i (by simp only [Int.toNat_natCast] at *; omega) | exact Dle.nil | exact Dle.rc Dle.nil | exact Option.some_ne_none _ | exact Or.inl rfl | exact Or.inr trivial | omega | (simp only [Int.toNat_natCast] at *; omega) | (intro _ _ _ _; exact Dle.of_eq rfl) | refine And.intro ?_ ?_), ?_⟩
                    | (refine codeW_cond rfl ?_; first | (refine condW_dec ?_ ?_ <;> intro _ <;> try (exfalso; omega)) | refine condW_not ?_ | (refine condW_bool ?_ ?_ <;> intro _ <;> try (exfalso; omega)))
                    | (refine facW_intro ?_; intro _)
                    | refine Or.inl ?_
                    | ((conv => whnf); first | (refine condW_dec ?_ ?_ <;> intro _ <;> try (exfalso; omega)) | refine condW_not ?_ | (refine condW_bool ?_ ?_ <;> intro _ <;> try (exfalso; omega)) | (refine nbC_t (fun _ => ?_) ?_) | (refine nbC_f ?_ (fun _ => ?_)))
                    | refine And.intro (by first | omega | (simp only [Int.toNat_natCast] at *; omega) | (simp only [Nat.reduceAdd, Int.cast_ofNat_Int, true_and, and_true]; omega) | kernel_rfl) ?_
                    | refine RegW.run ?_
                    | refine ⟨_, gp, ?_⟩
                    | fail
                  all_goals first
                    | (exfalso; omega)
                    | exact dle_errB E hr2
                    | (exfalso; rename_i h; cases h; done)
                    | trace_state
                · cases bk
                  · repeat' first
                      | refine Or.inr ⟨_, _, _, gc, by kernel_rfl, (by repeat' first | exact trivial | exact rfl | kernel_rfl | exact Dle.of_eq rfl | exact MLe.of_eq rfl | exact Dle.i (by omega) | exact Dle.i (by simp only [Int.toNat_natCast] at *; omega) | exact Dle.nil | exact Dle.rc Dle.nil | exact Option.some_ne_none _ | exact Or.inl rfl | exact Or.inr trivial | omega | (simp only [Int.toNat_natCast] at *; omega) | (intro _ _ _ _; exact Dle.of_eq rfl) | refine And.intro ?_ ?_), ?_⟩
                      | (refine codeW_cond rfl ?_; first | (refine condW_dec ?_ ?_ <;> intro _ <;> try (exfalso; omega)) | refine condW_not ?_ | (refine condW_bool ?_ ?_ <;> intro _ <;> try (exfalso; omega)))
                      | (refine facW_intro ?_; intro _)
                      | refine Or.inl ?_
                      | ((conv => whnf); first | (refine condW_dec ?_ ?_ <;> intro _ <;> try (exfalso; omega)) | refine condW_not ?_ | (refine condW_bool ?_ ?_ <;> intro _ <;> try (exfalso; omega)) | (refine nbC_t (fun _ => ?_) ?_) | (refine nbC_f ?_ (fun _ => ?_)))
                      | refine And.intro (by first | omega | (simp only [Int.toNat_natCast] at *; omega) | (simp only [Nat.reduceAdd, Int.cast_ofNat_Int, true_and, and_true]; omega) | kernel_rfl) ?_
                      | refine RegW.run ?_
                      | refine ⟨_, gp, ?_⟩
                      | fail
                    all_goals first
                      | (exfalso; rename_i h; cases h; done)
                      | exact ⟨m + 1, ⟨by omega, hE.trans (n3 rfl (by decide))⟩, ⟨[], ⟨by kernel_rfl, by kernel_rfl, by kernel_rfl, by kernel_rfl, by kernel_rfl, by kernel_rfl, by kernel_rfl⟩, (by repeat' first | exact trivial | exact rfl | kernel_rfl | exact Dle.of_eq rfl | exact MLe.of_eq rfl | exact Dle.i (by omega) | exact Dle.i (by simp only [Int.toNat_natCast] at *; omega) | exact Dle.nil | exact Dle.rc Dle.nil | exact Option.some_ne_none _ | exact Or.inl rfl | exact Or.inr trivial | omega | (simp only [Int.toNat_natCast] at *; omega) | (intro _ _ _ _; exact Dle.of_eq rfl) | refine And.intro ?_ ?_)⟩, by first | omega | (dsimp only; omega)⟩
                      | (exfalso; omega)
                      | trace_state
                  · have hr2 : r = errB 6 := by rw [hE, n2 rfl rfl, if_pos (by decide)] at hr; exact hr
                    repeat' first
                      | refine Or.inr ⟨_, _, _, gc, by kernel_rfl, (by repeat' first | exact trivial | exact rfl | kernel_rfl | exact Dle.of_eq rfl | exact MLe.of_eq rfl | exact Dle.i (by omega) | exact Dle.i (by simp only [Int.toNat_natCast] at *; omega) | exact Dle.nil | exact Dle.rc Dle.nil | exact Option.some_ne_none _ | exact Or.inl rfl | exact Or.inr trivial | omega | (simp only [Int.toNat_natCast] at *; omega) | (intro _ _ _ _; exact Dle.of_eq rfl) | refine And.intro ?_ ?_), ?_⟩
                      | (refine codeW_cond rfl ?_; first | (refine condW_dec ?_ ?_ <;> intro _ <;> try (exfalso; omega)) | refine condW_not ?_ | (refine condW_bool ?_ ?_ <;> intro _ <;> try (exfalso; omega)))
                      | (refine facW_intro ?_; intro _)
                      | refine Or.inl ?_
                      | ((conv => whnf); first | (refine condW_dec ?_ ?_ <;> intro _ <;> try (exfalso; omega)) | refine condW_not ?_ | (refine condW_bool ?_ ?_ <;> intro _ <;> try (exfalso; omega)) | (refine nbC_t (fun _ => ?_) ?_) | (refine nbC_f ?_ (fun _ => ?_)))
                      | refine And.intro (by first | omega | (simp only [Int.toNat_natCast] at *; omega) | (simp only [Nat.reduceAdd, Int.cast_ofNat_Int, true_and, and_true]; omega) | kernel_rfl) ?_
                      | refine RegW.run ?_
                      | refine ⟨_, gp, ?_⟩
                      | fail
                    all_goals first
                      | (exfalso; rename_i h; cases h; done)
                      | exact dle_errB E hr2
                      | (exfalso; omega)
                      | trace_state
              · obtain rfl : m = ls.length := by omega
                have hE0 : pfE (psP ls) 0 = 0 := hE.trans (pfE_end (by omega))
                rw [if_neg (by rw [hE0]; decide)] at hr
                have hsum := sm_sR hok (by omega)
                have hD : Dle (cx Tryz.prog mixed tyT_ok E) (.tup [.agg [dS ⟨#[]⟩, .sl 1 16 ls.length (fun i _ => dS ((psP ls).getD i ⟨#[]⟩)), .sl 1 8 ls.length (fun i _ => i64 (sR ls (i + 1)))], i64 0]) (encBun r) := by
                  rw [hr]
                  refine Dle.tup (X := (cx Tryz.prog mixed tyT_ok E)) ⟨Dle.agg (X := (cx Tryz.prog mixed tyT_ok E)) ⟨Dle.refl _ _, ?_, ?_, trivial⟩, Dle.refl _ _, trivial⟩
                  · exact Dle.sl (X := (cx Tryz.prog mixed tyT_ok E)) (psP_len ls).symm (fun i j hi hj => Dle.refl _ _)
                  · exact Dle.sl (X := (cx Tryz.prog mixed tyT_ok E)) (esP_len ls _).symm (fun i j hi hj => Dle.of_eq (by rw [esP_at hi, hsum i hi]))
                repeat' first
                  | (refine codeW_cond rfl ?_; first | (refine condW_dec ?_ ?_ <;> intro _ <;> try (exfalso; omega)) | refine condW_not ?_ | (refine condW_bool ?_ ?_ <;> intro _ <;> try (exfalso; omega)))
                  | (refine facW_intro ?_; intro _)
                  | refine Or.inl ?_
                  | ((conv => whnf); first | (refine condW_dec ?_ ?_ <;> intro _ <;> try (exfalso; omega)) | refine condW_not ?_ | (refine condW_bool ?_ ?_ <;> intro _ <;> try (exfalso; omega)) | (refine nbC_t (fun _ => ?_) ?_) | (refine nbC_f ?_ (fun _ => ?_)))
                  | refine And.intro (by first | omega | (simp only [Int.toNat_natCast] at *; omega) | (simp only [Nat.reduceAdd, Int.cast_ofNat_Int, true_and, and_true]; omega) | kernel_rfl) ?_
                  | refine RegW.run ?_
                  | fail
                all_goals first
                  | (exfalso; omega)
                  | exact hD
                  | trace_state
end
end md
end Go.Proofs.YtiiohopjkepkgaaGreatDoor
