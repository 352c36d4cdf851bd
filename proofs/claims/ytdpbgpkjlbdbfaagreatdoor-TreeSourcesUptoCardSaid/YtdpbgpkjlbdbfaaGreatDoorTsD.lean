/-
  Sources of a tree: what is wrong with settings, by the reference.
-/
import Derived.Test.YtdpbgpkjlbdbfaaGreatDoorTs9
namespace Go.Proofs.YtdpbgpkjlbdbfaaGreatDoor
open Go.RowKit
set_option linter.unusedVariables false
set_option linter.unusedSimpArgs false
namespace ts
open rs
section
variable (E : Env)
set_option maxRecDepth 100000
set_option maxHeartbeats 16000000 in
theorem r_settings_sp (hML : ∀ w, E.G w → ML w) (b : Nat) (E0 : Env) (hg : ∀ w, E0.G w → ∀ g, Rep view E0.MG w b0 (kindsGv b g) (.pointer (some ⟨g, 0, none⟩))) (hE : E = kEnv E0 b hg) (hm : ∃ es, GMap (cx Tryz.prog mixed tyT_ok E) .str b es ∧ ∀ k, Look es (.string k) (i64 0) (decide (0 ≤ kindK k), i64 (kindN k))) (key : ByteArray) (kind : Int) (v : Vu) (hf : faultE v = 0) (h6 : v.kind = 6) (hw : v.wt ≤ 100000000) :
    Sp (cx Tryz.prog mixed tyT_ok E) 99 [encV v, i64 kind, dS key] (i64 (setE v kind key)) := by
  obtain ⟨r, hr⟩ : ∃ r, r = setE v kind key := ⟨_, rfl⟩
  rw [← hr]
  unfold setE at hr
  have c1 := wrongKinds_sp E b E0 hg hE hm v hf h6
  clear hm hE
  rw [← wrong_eq hf h6] at c1
  have hkw := keys_le_wt v
  have h1 := has_sp E v (⟨#[115, 108, 117, 103]⟩ : ByteArray) hf
  cases hwB : wrongB v
  · rw [hwB] at c1 hr
    have h2 := has_sp E v (⟨#[97, 108, 105, 97, 115, 101, 115]⟩ : ByteArray) hf
    have h3 := has_sp E v (⟨#[116, 114, 97, 110, 115, 108, 97, 116, 105, 111, 110]⟩ : ByteArray) hf
    have h4 := has_sp E v (⟨#[99, 97, 115, 99, 97, 100, 101]⟩ : ByteArray) hf
    have c6 := r_isPart_sp E (itemK v (⟨#[115, 108, 117, 103]⟩ : ByteArray)).text
    have c7 := r_isPath_sp E hML (itemK v (⟨#[116, 114, 97, 110, 115, 108, 97, 116, 105, 111, 110]⟩ : ByteArray)).text
    have hcw := item_wt hf (⟨#[99, 97, 115, 99, 97, 100, 101]⟩ : ByteArray)
    unfold pathsB at hr
    generalize hasK v (⟨#[115, 108, 117, 103]⟩ : ByteArray) = sB at h1 hr
    generalize itemK v (⟨#[115, 108, 117, 103]⟩ : ByteArray) = x at h1 c6 hr
    generalize ppartB x.text = q at c6 hr
    generalize hasK v (⟨#[97, 108, 105, 97, 115, 101, 115]⟩ : ByteArray) = aB at h2
    generalize itemK v (⟨#[97, 108, 105, 97, 115, 101, 115]⟩ : ByteArray) = y at h2 hr
    generalize hasK v (⟨#[116, 114, 97, 110, 115, 108, 97, 116, 105, 111, 110]⟩ : ByteArray) = tB at h3 hr
    generalize itemK v (⟨#[116, 114, 97, 110, 115, 108, 97, 116, 105, 111, 110]⟩ : ByteArray) = t at h3 c7 hr
    generalize pathB t.text = tp at c7 hr
    generalize hasK v (⟨#[99, 97, 115, 99, 97, 100, 101]⟩ : ByteArray) = cB at h4 hr
    generalize itemK v (⟨#[99, 97, 115, 99, 97, 100, 101]⟩ : ByteArray) = c at h4 hcw hr
    have hck := keys_le_wt c
    have f0 := fun k => contS_sp E c.keys c.keys.length k (by omega)
    simp only [Bool.false_eq_true, if_false] at hr
    by_cases hS : sB = true ∧ q = false
    · refine Sp.body Tryz.func99 (by kernel_rfl) rfl (by kernel_rfl) (by kernel_rfl) (by kernel_rfl) ?_
      repeat' first
        | (refine codeW_cond rfl ?_; first | (refine condW_dec ?_ ?_ <;> intro _ <;> try (exfalso; omega)) | refine condW_not ?_ | (refine condW_bool ?_ ?_ <;> intro _ <;> try (exfalso; omega)))
        | (refine facW_intro ?_; intro _)
        | refine Or.inl ?_
        | ((conv => whnf); first | (refine condW_dec ?_ ?_ <;> intro _ <;> try (exfalso; omega)) | refine condW_not ?_ | (refine condW_bool ?_ ?_ <;> intro _ <;> try (exfalso; omega)) | (refine nbC_t (fun _ => ?_) ?_) | (refine nbC_f ?_ (fun _ => ?_)))
        | refine And.intro (by first | omega | (simp only [Int.toNat_natCast] at *; omega) | (simp only [Nat.reduceAdd, Int.cast_ofNat_Int, true_and, and_true]; omega) | kernel_rfl) ?_
        | refine RegW.run ?_
        | refine ⟨_, c1, ?_⟩
        | refine ⟨_, h1, ?_⟩
        | refine ⟨_, h2, ?_⟩
        | refine ⟨_, h3, ?_⟩
        | refine ⟨_, h4, ?_⟩
        | refine ⟨_, c6, ?_⟩
        | refine ⟨_, c7, ?_⟩
        | fail
      all_goals first
        | (exfalso; clear c1 h1 h2 h3 h4 c6 c7 f0 hr; grind)
        | (refine Dle.i ?_; rw [hr, hS.1, hS.2]; rfl)
        | trace_state
    have hS2 : (sB && !q) = false := by cases sB <;> cases q <;> simp_all
    rw [hS2, Bool.false_or] at hr
    have hno : ∀ k, k < y.items.length → (addrB (y.items.getD k .zero).text || pathB (y.items.getD k .zero).text) = false → r = 3 := fun k hk h => by
      rw [hr, bad_no hk h]; rfl
    have hgood : allN y.items.length (fun i => addrB (y.items.getD i .zero).text || pathB (y.items.getD i .zero).text) = true → r = if tB = true ∧ tp = false then 12 else if (¬ kind = 2 ∧ cB = true) ∨ (kind = 2 ∧ key = ⟨#[]⟩ ∧ sB = true) then 15 else if fiveB c.keys = true then 12 else 0 := fun h => by
      have : badAddr y.items = false := by unfold badAddr; rw [h]; rfl
      rw [hr, this]; rfl
    clear hr
    refine Sp.body Tryz.func99 (by kernel_rfl) rfl (by kernel_rfl) (by kernel_rfl) (by kernel_rfl) ?_
    repeat' first
      | (refine codeW_cond rfl ?_; first | (refine condW_dec ?_ ?_ <;> intro _ <;> try (exfalso; omega)) | refine condW_not ?_ | (refine condW_bool ?_ ?_ <;> intro _ <;> try (exfalso; omega)))
      | (refine facW_intro ?_; intro _)
      | refine Or.inl ?_
      | ((conv => whnf); first | (refine condW_dec ?_ ?_ <;> intro _ <;> try (exfalso; omega)) | refine condW_not ?_ | (refine condW_bool ?_ ?_ <;> intro _ <;> try (exfalso; omega)) | (refine nbC_t (fun _ => ?_) ?_) | (refine nbC_f ?_ (fun _ => ?_)))
      | refine And.intro (by first | omega | (simp only [Int.toNat_natCast] at *; omega) | (simp only [Nat.reduceAdd, Int.cast_ofNat_Int, true_and, and_true]; omega) | kernel_rfl) ?_
      | refine RegW.run ?_
      | refine ⟨_, c1, ?_⟩
      | refine ⟨_, h1, ?_⟩
      | refine ⟨_, h2, ?_⟩
      | refine ⟨_, h3, ?_⟩
      | refine ⟨_, h4, ?_⟩
      | refine ⟨_, c6, ?_⟩
      | refine ⟨_, c7, ?_⟩
      | fail
    all_goals try (exfalso; exact hS ⟨by assumption, by assumption⟩)
    all_goals
      refine ⟨Nat, fun k => [(41, i64 k)], fun k => [], [3], fun k => [], fun k => k ≤ y.items.length ∧ allN k (fun i => addrB (y.items.getD i .zero).text || pathB (y.items.getD i .zero).text) = true, fun k => y.items.length - k, ⟨0, ⟨by omega, rfl⟩, ⟨[], ⟨by kernel_rfl, by kernel_rfl, by kernel_rfl, by kernel_rfl, by kernel_rfl, by kernel_rfl, by kernel_rfl⟩, (by repeat' first | exact trivial | exact rfl | kernel_rfl | exact Dle.of_eq rfl | exact MLe.of_eq rfl | exact Dle.i (by omega) | exact Dle.i (by simp only [Int.toNat_natCast] at *; omega) | exact Dle.nil | exact Dle.rc Dle.nil | exact Option.some_ne_none _ | exact Or.inl rfl | exact Or.inr trivial | omega | (simp only [Int.toNat_natCast] at *; omega) | (intro _ _ _ _; exact Dle.of_eq rfl) | refine And.intro ?_ ?_)⟩⟩, fun k hk => ?_⟩
      obtain ⟨hk, hall⟩ := hk
      by_cases hlt : k < y.items.length
      · have hn := hno k hlt
        have a1 := r_isAddress_sp E hML (y.items.getD ((k : Int)).toNat .zero).text
        have a2 := r_isPath_sp E hML (y.items.getD ((k : Int)).toNat .zero).text
        have e1 : addrB (y.items.getD ((k : Int)).toNat .zero).text = addrB (y.items.getD k .zero).text := rfl
        have e2 : pathB (y.items.getD ((k : Int)).toNat .zero).text = pathB (y.items.getD k .zero).text := rfl
        have hs : (addrB (y.items.getD k .zero).text || pathB (y.items.getD k .zero).text) = true → allN (k + 1) (fun i => addrB (y.items.getD i .zero).text || pathB (y.items.getD i .zero).text) = true := fun h => allN_succ hall h
        generalize addrB (y.items.getD ((k : Int)).toNat .zero).text = d1 at a1 e1
        generalize pathB (y.items.getD ((k : Int)).toNat .zero).text = d2 at a2 e2
        rw [← e1, ← e2] at hn hs
        repeat' first
          | (refine codeW_cond rfl ?_; first | (refine condW_dec ?_ ?_ <;> intro _ <;> try (exfalso; omega)) | refine condW_not ?_ | (refine condW_bool ?_ ?_ <;> intro _ <;> try (exfalso; omega)))
          | (refine facW_intro ?_; intro _)
          | refine Or.inl ?_
          | ((conv => whnf); first | (refine condW_dec ?_ ?_ <;> intro _ <;> try (exfalso; omega)) | refine condW_not ?_ | (refine condW_bool ?_ ?_ <;> intro _ <;> try (exfalso; omega)) | (refine nbC_t (fun _ => ?_) ?_) | (refine nbC_f ?_ (fun _ => ?_)))
          | refine And.intro (by first | omega | (simp only [Int.toNat_natCast] at *; omega) | (simp only [Nat.reduceAdd, Int.cast_ofNat_Int, true_and, and_true]; omega) | kernel_rfl) ?_
          | refine RegW.run ?_
          | refine ⟨_, a1, ?_⟩
          | refine ⟨_, a2, ?_⟩
          | fail
        all_goals first
          | exact ⟨k + 1, ⟨by omega, hs (by simp_all)⟩, ⟨[], ⟨by kernel_rfl, by kernel_rfl, by kernel_rfl, by kernel_rfl, by kernel_rfl, by kernel_rfl, by kernel_rfl⟩, (by repeat' first | exact trivial | exact rfl | kernel_rfl | exact Dle.of_eq rfl | exact MLe.of_eq rfl | exact Dle.i (by omega) | exact Dle.i (by simp only [Int.toNat_natCast] at *; omega) | exact Dle.nil | exact Dle.rc Dle.nil | exact Option.some_ne_none _ | exact Or.inl rfl | exact Or.inr trivial | omega | (simp only [Int.toNat_natCast] at *; omega) | (intro _ _ _ _; exact Dle.of_eq rfl) | refine And.intro ?_ ?_)⟩, by first | omega | (dsimp only; omega)⟩
          | exact Dle.i (hn (by simp_all)).symm
          | trace_state
      · obtain rfl : k = y.items.length := by omega
        have hr := hgood hall
        clear hgood hno hall
        by_cases hE : (tB = true ∧ tp = false) ∨ ((¬ kind = 2 ∧ cB = true) ∨ (kind = 2 ∧ key = ⟨#[]⟩ ∧ sB = true))
        · repeat' first
            | (refine codeW_cond rfl ?_; first | (refine condW_dec ?_ ?_ <;> intro _ <;> try (exfalso; omega)) | refine condW_not ?_ | (refine condW_bool ?_ ?_ <;> intro _ <;> try (exfalso; omega)))
            | (refine facW_intro ?_; intro _)
            | refine Or.inl ?_
            | ((conv => whnf); first | (refine condW_dec ?_ ?_ <;> intro _ <;> try (exfalso; omega)) | refine condW_not ?_ | (refine condW_bool ?_ ?_ <;> intro _ <;> try (exfalso; omega)) | (refine nbC_t (fun _ => ?_) ?_) | (refine nbC_f ?_ (fun _ => ?_)))
            | refine And.intro (by first | omega | (simp only [Int.toNat_natCast] at *; omega) | (simp only [Nat.reduceAdd, Int.cast_ofNat_Int, true_and, and_true]; omega) | kernel_rfl) ?_
            | refine RegW.run ?_
            | refine ⟨_, c1, ?_⟩
            | refine ⟨_, h1, ?_⟩
            | refine ⟨_, h2, ?_⟩
            | refine ⟨_, h3, ?_⟩
            | refine ⟨_, h4, ?_⟩
            | refine ⟨_, c6, ?_⟩
            | refine ⟨_, c7, ?_⟩
            | fail
          all_goals first
            | (exfalso; clear c1 h1 h2 h3 h4 c6 c7 f0 hr; grind)
            | (refine Dle.i ?_; clear c1 h1 h2 h3 h4 c6 c7 f0; grind)
            | trace_state
        have h5 : ∀ k, k < 5 → inK c.keys c.keys.length (fiveL.getD k ⟨#[]⟩) = true → r = 12 := fun k hk h => by
          rw [hr, five_no hk h]; clear c1 h1 h2 h3 h4 c6 c7 f0; grind
        have h5no : allN 5 (fun i => !inK c.keys c.keys.length (fiveL.getD i ⟨#[]⟩)) = true → r = 0 := fun h => by
          rw [hr, five_end h]; clear c1 h1 h2 h3 h4 c6 c7 f0; grind
        simp only [not_or] at hE
        obtain ⟨hE2, hE3, hE4⟩ := hE
        clear hr
        repeat' first
          | (refine codeW_cond rfl ?_; first | (refine condW_dec ?_ ?_ <;> intro _ <;> try (exfalso; omega)) | refine condW_not ?_ | (refine condW_bool ?_ ?_ <;> intro _ <;> try (exfalso; omega)))
          | (refine facW_intro ?_; intro _)
          | refine Or.inl ?_
          | ((conv => whnf); first | (refine condW_dec ?_ ?_ <;> intro _ <;> try (exfalso; omega)) | refine condW_not ?_ | (refine condW_bool ?_ ?_ <;> intro _ <;> try (exfalso; omega)) | (refine nbC_t (fun _ => ?_) ?_) | (refine nbC_f ?_ (fun _ => ?_)))
          | refine And.intro (by first | omega | (simp only [Int.toNat_natCast] at *; omega) | (simp only [Nat.reduceAdd, Int.cast_ofNat_Int, true_and, and_true]; omega) | kernel_rfl) ?_
          | refine RegW.run ?_
          | refine ⟨_, c1, ?_⟩
          | refine ⟨_, h1, ?_⟩
          | refine ⟨_, h2, ?_⟩
          | refine ⟨_, h3, ?_⟩
          | refine ⟨_, h4, ?_⟩
          | refine ⟨_, c6, ?_⟩
          | refine ⟨_, c7, ?_⟩
          | fail
        all_goals try (exfalso; first | omega | (exact hE2 ⟨by assumption, by assumption⟩) | (exact hE3 ⟨by assumption, by assumption⟩) | (exact hE4 ⟨by assumption, by assumption, by assumption⟩))
        all_goals
          refine ⟨Nat, fun j => [(91, i64 j)], fun j => [], [15, 89], fun j => [], fun j => j ≤ 5 ∧ allN j (fun i => !inK c.keys c.keys.length (fiveL.getD i ⟨#[]⟩)) = true, fun j => 5 - j, ⟨0, ⟨by omega, rfl⟩, ⟨[], ⟨by kernel_rfl, by kernel_rfl, by kernel_rfl, by kernel_rfl, by kernel_rfl, by kernel_rfl, by kernel_rfl⟩, (by repeat' first | exact trivial | exact rfl | kernel_rfl | exact Dle.of_eq rfl | exact MLe.of_eq rfl | exact Dle.i (by omega) | exact Dle.i (by simp only [Int.toNat_natCast] at *; omega) | exact Dle.nil | exact Dle.rc Dle.nil | exact Option.some_ne_none _ | exact Or.inl rfl | exact Or.inr trivial | omega | (simp only [Int.toNat_natCast] at *; omega) | (intro _ _ _ _; exact Dle.of_eq rfl) | refine And.intro ?_ ?_)⟩⟩, fun j hj => ?_⟩
          obtain ⟨hj, hall⟩ := hj
          by_cases hj5 : j = 5
          · subst hj5
            have hr := h5no hall
            repeat' first
              | (refine codeW_cond rfl ?_; first | (refine condW_dec ?_ ?_ <;> intro _ <;> try (exfalso; omega)) | refine condW_not ?_ | (refine condW_bool ?_ ?_ <;> intro _ <;> try (exfalso; omega)))
              | (refine facW_intro ?_; intro _)
              | refine Or.inl ?_
              | ((conv => whnf); first | (refine condW_dec ?_ ?_ <;> intro _ <;> try (exfalso; omega)) | refine condW_not ?_ | (refine condW_bool ?_ ?_ <;> intro _ <;> try (exfalso; omega)) | (refine nbC_t (fun _ => ?_) ?_) | (refine nbC_f ?_ (fun _ => ?_)))
              | refine And.intro (by first | omega | (simp only [Int.toNat_natCast] at *; omega) | (simp only [Nat.reduceAdd, Int.cast_ofNat_Int, true_and, and_true]; omega) | kernel_rfl) ?_
              | refine RegW.run ?_
              | fail
            all_goals first
              | exact Dle.i hr.symm
              | (exfalso; omega)
              | trace_state
          · have hlt : j < 5 := by omega
            have hn := h5 j hlt
            have hs : inK c.keys c.keys.length (fiveL.getD j ⟨#[]⟩) = false → allN (j + 1) (fun i => !inK c.keys c.keys.length (fiveL.getD i ⟨#[]⟩)) = true := fun h => allN_succ hall (by rw [h]; rfl)
            match j, hlt with
            | 0, _ =>
              have f1 := f0 (⟨#[115, 108, 117, 103]⟩ : ByteArray)
              have hn : inK c.keys c.keys.length (⟨#[115, 108, 117, 103]⟩ : ByteArray) = true → r = 12 := hn
              have hs : inK c.keys c.keys.length (⟨#[115, 108, 117, 103]⟩ : ByteArray) = false → allN (0 + 1) (fun i => !inK c.keys c.keys.length (fiveL.getD i ⟨#[]⟩)) = true := hs
              generalize inK c.keys c.keys.length (⟨#[115, 108, 117, 103]⟩ : ByteArray) = z at f1 hn hs
              cases z
              · have hr := hs rfl
                repeat' first
                  | (refine codeW_cond rfl ?_; first | (refine condW_dec ?_ ?_ <;> intro _ <;> try (exfalso; omega)) | refine condW_not ?_ | (refine condW_bool ?_ ?_ <;> intro _ <;> try (exfalso; omega)))
                  | (refine facW_intro ?_; intro _)
                  | refine Or.inl ?_
                  | ((conv => whnf); first | (refine condW_dec ?_ ?_ <;> intro _ <;> try (exfalso; omega)) | refine condW_not ?_ | (refine condW_bool ?_ ?_ <;> intro _ <;> try (exfalso; omega)) | (refine nbC_t (fun _ => ?_) ?_) | (refine nbC_f ?_ (fun _ => ?_)))
                  | refine And.intro (by first | omega | (simp only [Int.toNat_natCast] at *; omega) | (simp only [Nat.reduceAdd, Int.cast_ofNat_Int, true_and, and_true]; omega) | kernel_rfl) ?_
                  | refine RegW.run ?_
                  | refine ⟨_, f1, ?_⟩
                  | fail
                all_goals first
                  | exact ⟨0 + 1, ⟨by omega, hr⟩, ⟨[], ⟨by kernel_rfl, by kernel_rfl, by kernel_rfl, by kernel_rfl, by kernel_rfl, by kernel_rfl, by kernel_rfl⟩, (by repeat' first | exact trivial | exact rfl | kernel_rfl | exact Dle.of_eq rfl | exact MLe.of_eq rfl | exact Dle.i (by omega) | exact Dle.i (by simp only [Int.toNat_natCast] at *; omega) | exact Dle.nil | exact Dle.rc Dle.nil | exact Option.some_ne_none _ | exact Or.inl rfl | exact Or.inr trivial | omega | (simp only [Int.toNat_natCast] at *; omega) | (intro _ _ _ _; exact Dle.of_eq rfl) | refine And.intro ?_ ?_)⟩, by first | omega | (dsimp only; omega)⟩
                  | (exfalso; rename_i h; cases h; done)
                  | trace_state
              · have hr := hn rfl
                repeat' first
                  | (refine codeW_cond rfl ?_; first | (refine condW_dec ?_ ?_ <;> intro _ <;> try (exfalso; omega)) | refine condW_not ?_ | (refine condW_bool ?_ ?_ <;> intro _ <;> try (exfalso; omega)))
                  | (refine facW_intro ?_; intro _)
                  | refine Or.inl ?_
                  | ((conv => whnf); first | (refine condW_dec ?_ ?_ <;> intro _ <;> try (exfalso; omega)) | refine condW_not ?_ | (refine condW_bool ?_ ?_ <;> intro _ <;> try (exfalso; omega)) | (refine nbC_t (fun _ => ?_) ?_) | (refine nbC_f ?_ (fun _ => ?_)))
                  | refine And.intro (by first | omega | (simp only [Int.toNat_natCast] at *; omega) | (simp only [Nat.reduceAdd, Int.cast_ofNat_Int, true_and, and_true]; omega) | kernel_rfl) ?_
                  | refine RegW.run ?_
                  | refine ⟨_, f1, ?_⟩
                  | fail
                all_goals first
                  | exact Dle.i hr.symm
                  | (exfalso; rename_i h; cases h; done)
                  | trace_state
            | 1, _ =>
              have f1 := f0 (⟨#[116, 114, 97, 110, 115, 108, 97, 116, 105, 111, 110]⟩ : ByteArray)
              have hn : inK c.keys c.keys.length (⟨#[116, 114, 97, 110, 115, 108, 97, 116, 105, 111, 110]⟩ : ByteArray) = true → r = 12 := hn
              have hs : inK c.keys c.keys.length (⟨#[116, 114, 97, 110, 115, 108, 97, 116, 105, 111, 110]⟩ : ByteArray) = false → allN (1 + 1) (fun i => !inK c.keys c.keys.length (fiveL.getD i ⟨#[]⟩)) = true := hs
              generalize inK c.keys c.keys.length (⟨#[116, 114, 97, 110, 115, 108, 97, 116, 105, 111, 110]⟩ : ByteArray) = z at f1 hn hs
              cases z
              · have hr := hs rfl
                repeat' first
                  | (refine codeW_cond rfl ?_; first | (refine condW_dec ?_ ?_ <;> intro _ <;> try (exfalso; omega)) | refine condW_not ?_ | (refine condW_bool ?_ ?_ <;> intro _ <;> try (exfalso; omega)))
                  | (refine facW_intro ?_; intro _)
                  | refine Or.inl ?_
                  | ((conv => whnf); first | (refine condW_dec ?_ ?_ <;> intro _ <;> try (exfalso; omega)) | refine condW_not ?_ | (refine condW_bool ?_ ?_ <;> intro _ <;> try (exfalso; omega)) | (refine nbC_t (fun _ => ?_) ?_) | (refine nbC_f ?_ (fun _ => ?_)))
                  | refine And.intro (by first | omega | (simp only [Int.toNat_natCast] at *; omega) | (simp only [Nat.reduceAdd, Int.cast_ofNat_Int, true_and, and_true]; omega) | kernel_rfl) ?_
                  | refine RegW.run ?_
                  | refine ⟨_, f1, ?_⟩
                  | fail
                all_goals first
                  | exact ⟨1 + 1, ⟨by omega, hr⟩, ⟨[], ⟨by kernel_rfl, by kernel_rfl, by kernel_rfl, by kernel_rfl, by kernel_rfl, by kernel_rfl, by kernel_rfl⟩, (by repeat' first | exact trivial | exact rfl | kernel_rfl | exact Dle.of_eq rfl | exact MLe.of_eq rfl | exact Dle.i (by omega) | exact Dle.i (by simp only [Int.toNat_natCast] at *; omega) | exact Dle.nil | exact Dle.rc Dle.nil | exact Option.some_ne_none _ | exact Or.inl rfl | exact Or.inr trivial | omega | (simp only [Int.toNat_natCast] at *; omega) | (intro _ _ _ _; exact Dle.of_eq rfl) | refine And.intro ?_ ?_)⟩, by first | omega | (dsimp only; omega)⟩
                  | (exfalso; rename_i h; cases h; done)
                  | trace_state
              · have hr := hn rfl
                repeat' first
                  | (refine codeW_cond rfl ?_; first | (refine condW_dec ?_ ?_ <;> intro _ <;> try (exfalso; omega)) | refine condW_not ?_ | (refine condW_bool ?_ ?_ <;> intro _ <;> try (exfalso; omega)))
                  | (refine facW_intro ?_; intro _)
                  | refine Or.inl ?_
                  | ((conv => whnf); first | (refine condW_dec ?_ ?_ <;> intro _ <;> try (exfalso; omega)) | refine condW_not ?_ | (refine condW_bool ?_ ?_ <;> intro _ <;> try (exfalso; omega)) | (refine nbC_t (fun _ => ?_) ?_) | (refine nbC_f ?_ (fun _ => ?_)))
                  | refine And.intro (by first | omega | (simp only [Int.toNat_natCast] at *; omega) | (simp only [Nat.reduceAdd, Int.cast_ofNat_Int, true_and, and_true]; omega) | kernel_rfl) ?_
                  | refine RegW.run ?_
                  | refine ⟨_, f1, ?_⟩
                  | fail
                all_goals first
                  | exact Dle.i hr.symm
                  | (exfalso; rename_i h; cases h; done)
                  | trace_state
            | 2, _ =>
              have f1 := f0 (⟨#[97, 108, 105, 97, 115, 101, 115]⟩ : ByteArray)
              have hn : inK c.keys c.keys.length (⟨#[97, 108, 105, 97, 115, 101, 115]⟩ : ByteArray) = true → r = 12 := hn
              have hs : inK c.keys c.keys.length (⟨#[97, 108, 105, 97, 115, 101, 115]⟩ : ByteArray) = false → allN (2 + 1) (fun i => !inK c.keys c.keys.length (fiveL.getD i ⟨#[]⟩)) = true := hs
              generalize inK c.keys c.keys.length (⟨#[97, 108, 105, 97, 115, 101, 115]⟩ : ByteArray) = z at f1 hn hs
              cases z
              · have hr := hs rfl
                repeat' first
                  | (refine codeW_cond rfl ?_; first | (refine condW_dec ?_ ?_ <;> intro _ <;> try (exfalso; omega)) | refine condW_not ?_ | (refine condW_bool ?_ ?_ <;> intro _ <;> try (exfalso; omega)))
                  | (refine facW_intro ?_; intro _)
                  | refine Or.inl ?_
                  | ((conv => whnf); first | (refine condW_dec ?_ ?_ <;> intro _ <;> try (exfalso; omega)) | refine condW_not ?_ | (refine condW_bool ?_ ?_ <;> intro _ <;> try (exfalso; omega)) | (refine nbC_t (fun _ => ?_) ?_) | (refine nbC_f ?_ (fun _ => ?_)))
                  | refine And.intro (by first | omega | (simp only [Int.toNat_natCast] at *; omega) | (simp only [Nat.reduceAdd, Int.cast_ofNat_Int, true_and, and_true]; omega) | kernel_rfl) ?_
                  | refine RegW.run ?_
                  | refine ⟨_, f1, ?_⟩
                  | fail
                all_goals first
                  | exact ⟨2 + 1, ⟨by omega, hr⟩, ⟨[], ⟨by kernel_rfl, by kernel_rfl, by kernel_rfl, by kernel_rfl, by kernel_rfl, by kernel_rfl, by kernel_rfl⟩, (by repeat' first | exact trivial | exact rfl | kernel_rfl | exact Dle.of_eq rfl | exact MLe.of_eq rfl | exact Dle.i (by omega) | exact Dle.i (by simp only [Int.toNat_natCast] at *; omega) | exact Dle.nil | exact Dle.rc Dle.nil | exact Option.some_ne_none _ | exact Or.inl rfl | exact Or.inr trivial | omega | (simp only [Int.toNat_natCast] at *; omega) | (intro _ _ _ _; exact Dle.of_eq rfl) | refine And.intro ?_ ?_)⟩, by first | omega | (dsimp only; omega)⟩
                  | (exfalso; rename_i h; cases h; done)
                  | trace_state
              · have hr := hn rfl
                repeat' first
                  | (refine codeW_cond rfl ?_; first | (refine condW_dec ?_ ?_ <;> intro _ <;> try (exfalso; omega)) | refine condW_not ?_ | (refine condW_bool ?_ ?_ <;> intro _ <;> try (exfalso; omega)))
                  | (refine facW_intro ?_; intro _)
                  | refine Or.inl ?_
                  | ((conv => whnf); first | (refine condW_dec ?_ ?_ <;> intro _ <;> try (exfalso; omega)) | refine condW_not ?_ | (refine condW_bool ?_ ?_ <;> intro _ <;> try (exfalso; omega)) | (refine nbC_t (fun _ => ?_) ?_) | (refine nbC_f ?_ (fun _ => ?_)))
                  | refine And.intro (by first | omega | (simp only [Int.toNat_natCast] at *; omega) | (simp only [Nat.reduceAdd, Int.cast_ofNat_Int, true_and, and_true]; omega) | kernel_rfl) ?_
                  | refine RegW.run ?_
                  | refine ⟨_, f1, ?_⟩
                  | fail
                all_goals first
                  | exact Dle.i hr.symm
                  | (exfalso; rename_i h; cases h; done)
                  | trace_state
            | 3, _ =>
              have f1 := f0 (⟨#[109, 101, 110, 117, 115]⟩ : ByteArray)
              have hn : inK c.keys c.keys.length (⟨#[109, 101, 110, 117, 115]⟩ : ByteArray) = true → r = 12 := hn
              have hs : inK c.keys c.keys.length (⟨#[109, 101, 110, 117, 115]⟩ : ByteArray) = false → allN (3 + 1) (fun i => !inK c.keys c.keys.length (fiveL.getD i ⟨#[]⟩)) = true := hs
              generalize inK c.keys c.keys.length (⟨#[109, 101, 110, 117, 115]⟩ : ByteArray) = z at f1 hn hs
              cases z
              · have hr := hs rfl
                repeat' first
                  | (refine codeW_cond rfl ?_; first | (refine condW_dec ?_ ?_ <;> intro _ <;> try (exfalso; omega)) | refine condW_not ?_ | (refine condW_bool ?_ ?_ <;> intro _ <;> try (exfalso; omega)))
                  | (refine facW_intro ?_; intro _)
                  | refine Or.inl ?_
                  | ((conv => whnf); first | (refine condW_dec ?_ ?_ <;> intro _ <;> try (exfalso; omega)) | refine condW_not ?_ | (refine condW_bool ?_ ?_ <;> intro _ <;> try (exfalso; omega)) | (refine nbC_t (fun _ => ?_) ?_) | (refine nbC_f ?_ (fun _ => ?_)))
                  | refine And.intro (by first | omega | (simp only [Int.toNat_natCast] at *; omega) | (simp only [Nat.reduceAdd, Int.cast_ofNat_Int, true_and, and_true]; omega) | kernel_rfl) ?_
                  | refine RegW.run ?_
                  | refine ⟨_, f1, ?_⟩
                  | fail
                all_goals first
                  | exact ⟨3 + 1, ⟨by omega, hr⟩, ⟨[], ⟨by kernel_rfl, by kernel_rfl, by kernel_rfl, by kernel_rfl, by kernel_rfl, by kernel_rfl, by kernel_rfl⟩, (by repeat' first | exact trivial | exact rfl | kernel_rfl | exact Dle.of_eq rfl | exact MLe.of_eq rfl | exact Dle.i (by omega) | exact Dle.i (by simp only [Int.toNat_natCast] at *; omega) | exact Dle.nil | exact Dle.rc Dle.nil | exact Option.some_ne_none _ | exact Or.inl rfl | exact Or.inr trivial | omega | (simp only [Int.toNat_natCast] at *; omega) | (intro _ _ _ _; exact Dle.of_eq rfl) | refine And.intro ?_ ?_)⟩, by first | omega | (dsimp only; omega)⟩
                  | (exfalso; rename_i h; cases h; done)
                  | trace_state
              · have hr := hn rfl
                repeat' first
                  | (refine codeW_cond rfl ?_; first | (refine condW_dec ?_ ?_ <;> intro _ <;> try (exfalso; omega)) | refine condW_not ?_ | (refine condW_bool ?_ ?_ <;> intro _ <;> try (exfalso; omega)))
                  | (refine facW_intro ?_; intro _)
                  | refine Or.inl ?_
                  | ((conv => whnf); first | (refine condW_dec ?_ ?_ <;> intro _ <;> try (exfalso; omega)) | refine condW_not ?_ | (refine condW_bool ?_ ?_ <;> intro _ <;> try (exfalso; omega)) | (refine nbC_t (fun _ => ?_) ?_) | (refine nbC_f ?_ (fun _ => ?_)))
                  | refine And.intro (by first | omega | (simp only [Int.toNat_natCast] at *; omega) | (simp only [Nat.reduceAdd, Int.cast_ofNat_Int, true_and, and_true]; omega) | kernel_rfl) ?_
                  | refine RegW.run ?_
                  | refine ⟨_, f1, ?_⟩
                  | fail
                all_goals first
                  | exact Dle.i hr.symm
                  | (exfalso; rename_i h; cases h; done)
                  | trace_state
            | 4, _ =>
              have f1 := f0 (⟨#[99, 97, 115, 99, 97, 100, 101]⟩ : ByteArray)
              have hn : inK c.keys c.keys.length (⟨#[99, 97, 115, 99, 97, 100, 101]⟩ : ByteArray) = true → r = 12 := hn
              have hs : inK c.keys c.keys.length (⟨#[99, 97, 115, 99, 97, 100, 101]⟩ : ByteArray) = false → allN (4 + 1) (fun i => !inK c.keys c.keys.length (fiveL.getD i ⟨#[]⟩)) = true := hs
              generalize inK c.keys c.keys.length (⟨#[99, 97, 115, 99, 97, 100, 101]⟩ : ByteArray) = z at f1 hn hs
              cases z
              · have hr := hs rfl
                repeat' first
                  | (refine codeW_cond rfl ?_; first | (refine condW_dec ?_ ?_ <;> intro _ <;> try (exfalso; omega)) | refine condW_not ?_ | (refine condW_bool ?_ ?_ <;> intro _ <;> try (exfalso; omega)))
                  | (refine facW_intro ?_; intro _)
                  | refine Or.inl ?_
                  | ((conv => whnf); first | (refine condW_dec ?_ ?_ <;> intro _ <;> try (exfalso; omega)) | refine condW_not ?_ | (refine condW_bool ?_ ?_ <;> intro _ <;> try (exfalso; omega)) | (refine nbC_t (fun _ => ?_) ?_) | (refine nbC_f ?_ (fun _ => ?_)))
                  | refine And.intro (by first | omega | (simp only [Int.toNat_natCast] at *; omega) | (simp only [Nat.reduceAdd, Int.cast_ofNat_Int, true_and, and_true]; omega) | kernel_rfl) ?_
                  | refine RegW.run ?_
                  | refine ⟨_, f1, ?_⟩
                  | fail
                all_goals first
                  | exact ⟨4 + 1, ⟨by omega, hr⟩, ⟨[], ⟨by kernel_rfl, by kernel_rfl, by kernel_rfl, by kernel_rfl, by kernel_rfl, by kernel_rfl, by kernel_rfl⟩, (by repeat' first | exact trivial | exact rfl | kernel_rfl | exact Dle.of_eq rfl | exact MLe.of_eq rfl | exact Dle.i (by omega) | exact Dle.i (by simp only [Int.toNat_natCast] at *; omega) | exact Dle.nil | exact Dle.rc Dle.nil | exact Option.some_ne_none _ | exact Or.inl rfl | exact Or.inr trivial | omega | (simp only [Int.toNat_natCast] at *; omega) | (intro _ _ _ _; exact Dle.of_eq rfl) | refine And.intro ?_ ?_)⟩, by first | omega | (dsimp only; omega)⟩
                  | (exfalso; rename_i h; cases h; done)
                  | trace_state
              · have hr := hn rfl
                repeat' first
                  | (refine codeW_cond rfl ?_; first | (refine condW_dec ?_ ?_ <;> intro _ <;> try (exfalso; omega)) | refine condW_not ?_ | (refine condW_bool ?_ ?_ <;> intro _ <;> try (exfalso; omega)))
                  | (refine facW_intro ?_; intro _)
                  | refine Or.inl ?_
                  | ((conv => whnf); first | (refine condW_dec ?_ ?_ <;> intro _ <;> try (exfalso; omega)) | refine condW_not ?_ | (refine condW_bool ?_ ?_ <;> intro _ <;> try (exfalso; omega)) | (refine nbC_t (fun _ => ?_) ?_) | (refine nbC_f ?_ (fun _ => ?_)))
                  | refine And.intro (by first | omega | (simp only [Int.toNat_natCast] at *; omega) | (simp only [Nat.reduceAdd, Int.cast_ofNat_Int, true_and, and_true]; omega) | kernel_rfl) ?_
                  | refine RegW.run ?_
                  | refine ⟨_, f1, ?_⟩
                  | fail
                all_goals first
                  | exact Dle.i hr.symm
                  | (exfalso; rename_i h; cases h; done)
                  | trace_state
  · rw [hwB] at c1 hr
    have hr := hr.trans (if_pos rfl)
    refine Sp.body Tryz.func99 (by kernel_rfl) rfl (by kernel_rfl) (by kernel_rfl) (by kernel_rfl) ?_
    repeat' first
      | (refine codeW_cond rfl ?_; first | (refine condW_dec ?_ ?_ <;> intro _ <;> try (exfalso; omega)) | refine condW_not ?_ | (refine condW_bool ?_ ?_ <;> intro _ <;> try (exfalso; omega)))
      | (refine facW_intro ?_; intro _)
      | refine Or.inl ?_
      | ((conv => whnf); first | (refine condW_dec ?_ ?_ <;> intro _ <;> try (exfalso; omega)) | refine condW_not ?_ | (refine condW_bool ?_ ?_ <;> intro _ <;> try (exfalso; omega)) | (refine nbC_t (fun _ => ?_) ?_) | (refine nbC_f ?_ (fun _ => ?_)))
      | refine And.intro (by first | omega | (simp only [Int.toNat_natCast] at *; omega) | (simp only [Nat.reduceAdd, Int.cast_ofNat_Int, true_and, and_true]; omega) | kernel_rfl) ?_
      | refine RegW.run ?_
      | refine ⟨_, c1, ?_⟩
      | refine ⟨_, h1, ?_⟩
      | fail
    all_goals first
      | exact Dle.i hr.symm
      | (exfalso; rename_i h; cases h; done)
      | trace_state
end
end ts
end Go.Proofs.YtdpbgpkjlbdbfaaGreatDoor
