/-
  The parts of a bundle as text: the law.
-/
import Derived.Test.YtagggnjcpjodjaaDoorMp2
namespace Go.Proofs.YtagggnjcpjodjaaDoor.mp32
open Go.RowKit
set_option linter.unusedVariables false
set_option linter.unusedSimpArgs false
theorem sizes {p q : ByteArray} {m : ByteArray} {k : Nat} (hp : pathB p = true) (hq : q.size ≤ 4) (hm : m.size ≤ 206 * k) (hk : k ≤ 40) :
    (⟨#[32]⟩ : ByteArray).size = 1 ∧ (⟨#[10]⟩ : ByteArray).size = 1 ∧ p.size ≤ 200 ∧ (p ++ ⟨#[32]⟩).size ≤ 201 ∧ (p ++ ⟨#[32]⟩ ++ q).size ≤ 205 ∧ (p ++ ⟨#[32]⟩ ++ q ++ ⟨#[10]⟩).size ≤ 206 ∧ m.size ≤ 8240 ∧ q.size ≤ 4 := by
  have h1 := path_size hp
  have c1 : (⟨#[32]⟩ : ByteArray).size = 1 := rfl
  have c2 : (⟨#[10]⟩ : ByteArray).size = 1 := rfl
  have e1 : (p ++ ⟨#[32]⟩).size = p.size + 1 := by rw [ByteArray.size_append]; rfl
  have e2 : (p ++ ⟨#[32]⟩ ++ q).size = p.size + 1 + q.size := by rw [ByteArray.size_append, e1]
  have e3 : (p ++ ⟨#[32]⟩ ++ q ++ ⟨#[10]⟩).size = p.size + 1 + q.size + 1 := by rw [ByteArray.size_append, e2]; rfl
  exact ⟨rfl, rfl, h1, by omega, by omega, by omega, by omega, hq⟩
section
variable (E : Env)
set_option maxRecDepth 100000
theorem mapString_sp (hML : ∀ w, E.G w → ML w) (b : ByteArray) (ps : List ByteArray) (es : List Int) (hp : ps.length ≤ 100000000000000) (he : es.length ≤ 100000000000000) : Sp (cx Tryd.prog mixed tyT_ok E) 10 [encB b ps es] (encO (mapR b ps es)) := by
  have h1 := bundleFault_sp E b ps es hp he
  obtain ⟨r, hr⟩ : ∃ r, r = mapR b ps es := ⟨_, rfl⟩
  rw [← hr]
  unfold mapR at hr
  have hend : ∀ (e : Res) (c : Int), e = errR c → Dle (cx Tryd.prog mixed tyT_ok E) (.tup [dS ⟨#[]⟩, i64 c]) (encO e) := fun e c h => by rw [h]; exact Dle.refl _ _
  by_cases hb : bunE b ps es = 0
  · rw [if_neg (fun h => h hb)] at hr
    rw [hb] at h1
    have hb0 : ¬ (200000 : Int) < b.size := fun h => by unfold bunE at hb; rw [if_pos h] at hb; omega
    have hf : formB b ps es = true := by
      unfold bunE at hb
      rw [if_neg hb0] at hb
      by_cases h : formB b ps es = true
      · exact h
      · rw [if_neg h] at hb
        omega
    obtain ⟨f1, f2, f3, f4⟩ := formB_iff.1 hf
    have h2 := partsFault_sp E hML ps f2
    by_cases hz : pfE ps 0 = 0
    · rw [if_neg (fun h => h hz)] at hr
      rw [hz] at h2
      have hall := pfE_all ps _ 0 (Nat.lt_succ_self _) hz
      refine Sp.body Tryd.func10 (by kernel_rfl) rfl (by kernel_rfl) (by kernel_rfl) (by kernel_rfl) ?_
      repeat' first
        | (refine facW_intro ?_; intro _)
        | refine Or.inl ?_
        | ((conv => whnf); first | (refine condW_dec ?_ ?_ <;> intro _ <;> try (exfalso; omega)) | refine condW_not ?_ | (refine condW_bool ?_ ?_ <;> intro _ <;> try (exfalso; omega)) | (refine nbC_t (fun _ => ?_) ?_) | (refine nbC_f ?_ (fun _ => ?_)))
        | refine And.intro (by first | omega | (simp only [Int.toNat_natCast] at *; omega) | (simp only [Nat.reduceAdd, Int.cast_ofNat_Int, true_and, and_true]; omega) | kernel_rfl) ?_
        | refine RegW.run ?_
        | refine ⟨_, h1, ?_⟩
        | refine ⟨_, h2, ?_⟩
        | fail
      all_goals try (exfalso; rename_i h; exact h rfl)
      refine ⟨Nat, fun k => [(24, i64 k), (6, dS (mtxt ps es k)), (7, i64 (pv es k))], fun k => [], [1], fun k => [], fun k => k ≤ ps.length, fun k => ps.length - k, ⟨0, by omega, ⟨[], ⟨by kernel_rfl, by kernel_rfl, by kernel_rfl, by kernel_rfl, by kernel_rfl, by kernel_rfl, by kernel_rfl⟩, (by repeat' first | exact trivial | exact rfl | kernel_rfl | exact Dle.of_eq rfl | exact MLe.of_eq rfl | exact Dle.i (by omega) | exact Dle.i (by simp only [Int.toNat_natCast] at *; omega) | exact Dle.nil | exact Dle.rc Dle.nil | exact Option.some_ne_none _ | exact Or.inl rfl | exact Or.inr trivial | omega | (simp only [Int.toNat_natCast] at *; omega) | (intro _ _ _ _; exact Dle.of_eq rfl) | refine And.intro ?_ ?_)⟩⟩, fun k hk => ?_⟩
      have hk : k ≤ ps.length := hk
      by_cases hlt : k < ps.length
      · have hn := form_k hb0 hf (k := k) (by omega)
        have h3 : Sp (cx Tryd.prog mixed tyT_ok E) 27 [i64 (es.getD ((k : Int)).toNat 0 - pv es k)] (dS (bs (b32 (es.getD ((k : Int)).toNat 0 - pv es k)))) := base32_sp E _ hn.1 (by omega)
        have hs := sizes (p := ps.getD ((k : Int)).toNat ⟨#[]⟩) (q := bs (b32 (es.getD ((k : Int)).toNat 0 - pv es k))) (hall k (by omega) hlt) (by rw [bs_size]; exact b32_len _) (mtxt_size (es := es) (fun i hi => hall i (by omega) (by omega))) (by omega : k ≤ 40)
        repeat' first
          | (refine facW_intro ?_; intro _)
          | refine Or.inl ?_
          | ((conv => whnf); first | (refine condW_dec ?_ ?_ <;> intro _ <;> try (exfalso; omega)) | refine condW_not ?_ | (refine condW_bool ?_ ?_ <;> intro _ <;> try (exfalso; omega)) | (refine nbC_t (fun _ => ?_) ?_) | (refine nbC_f ?_ (fun _ => ?_)))
          | refine And.intro (by first | omega | (simp only [Int.toNat_natCast] at *; omega) | (simp only [Nat.reduceAdd, Int.cast_ofNat_Int, true_and, and_true]; omega) | kernel_rfl) ?_
          | refine RegW.run ?_
          | refine ⟨_, h3, ?_⟩
          | fail
        all_goals first
          | exact ⟨k + 1, by omega, ⟨[], ⟨by kernel_rfl, by kernel_rfl, by kernel_rfl, by kernel_rfl, by kernel_rfl, by kernel_rfl, by kernel_rfl⟩, (by repeat' first | ((first | exact Dle.i (pv_s es k).symm | exact Dle.of_eq rfl)) | exact trivial | exact rfl | kernel_rfl | exact Dle.of_eq rfl | exact MLe.of_eq rfl | exact Dle.i (by omega) | exact Dle.i (by simp only [Int.toNat_natCast] at *; omega) | exact Dle.nil | exact Dle.rc Dle.nil | exact Option.some_ne_none _ | exact Or.inl rfl | exact Or.inr trivial | omega | (simp only [Int.toNat_natCast] at *; omega) | (intro _ _ _ _; exact Dle.of_eq rfl) | refine And.intro ?_ ?_)⟩, by first | omega | (dsimp only; omega)⟩
          | trace_state
      · obtain rfl : k = ps.length := by omega
        repeat' first
          | (refine facW_intro ?_; intro _)
          | refine Or.inl ?_
          | ((conv => whnf); first | (refine condW_dec ?_ ?_ <;> intro _ <;> try (exfalso; omega)) | refine condW_not ?_ | (refine condW_bool ?_ ?_ <;> intro _ <;> try (exfalso; omega)) | (refine nbC_t (fun _ => ?_) ?_) | (refine nbC_f ?_ (fun _ => ?_)))
          | refine And.intro (by first | omega | (simp only [Int.toNat_natCast] at *; omega) | (simp only [Nat.reduceAdd, Int.cast_ofNat_Int, true_and, and_true]; omega) | kernel_rfl) ?_
          | refine RegW.run ?_
          | fail
        all_goals first
          | (rw [hr]; exact Dle.refl _ _)
          | trace_state
    · rw [if_pos hz] at hr
      refine Sp.body Tryd.func10 (by kernel_rfl) rfl (by kernel_rfl) (by kernel_rfl) (by kernel_rfl) ?_
      repeat' first
        | (refine facW_intro ?_; intro _)
        | refine Or.inl ?_
        | ((conv => whnf); first | (refine condW_dec ?_ ?_ <;> intro _ <;> try (exfalso; omega)) | refine condW_not ?_ | (refine condW_bool ?_ ?_ <;> intro _ <;> try (exfalso; omega)) | (refine nbC_t (fun _ => ?_) ?_) | (refine nbC_f ?_ (fun _ => ?_)))
        | refine And.intro (by first | omega | (simp only [Int.toNat_natCast] at *; omega) | (simp only [Nat.reduceAdd, Int.cast_ofNat_Int, true_and, and_true]; omega) | kernel_rfl) ?_
        | refine RegW.run ?_
        | refine ⟨_, h1, ?_⟩
        | refine ⟨_, h2, ?_⟩
        | fail
      all_goals first
        | (exfalso; rename_i h; exact h rfl)
        | exact hend _ _ hr
        | (exfalso; rename_i h; exact hz (by simpa using h))
        | trace_state
  · rw [if_pos hb] at hr
    refine Sp.body Tryd.func10 (by kernel_rfl) rfl (by kernel_rfl) (by kernel_rfl) (by kernel_rfl) ?_
    repeat' first
      | (refine facW_intro ?_; intro _)
      | refine Or.inl ?_
      | ((conv => whnf); first | (refine condW_dec ?_ ?_ <;> intro _ <;> try (exfalso; omega)) | refine condW_not ?_ | (refine condW_bool ?_ ?_ <;> intro _ <;> try (exfalso; omega)) | (refine nbC_t (fun _ => ?_) ?_) | (refine nbC_f ?_ (fun _ => ?_)))
      | refine And.intro (by first | omega | (simp only [Int.toNat_natCast] at *; omega) | (simp only [Nat.reduceAdd, Int.cast_ofNat_Int, true_and, and_true]; omega) | kernel_rfl) ?_
      | refine RegW.run ?_
      | refine ⟨_, h1, ?_⟩
      | fail
    all_goals first
      | exact hend _ _ hr
      | (exfalso; rename_i h; exact hb (by simpa using h))
      | trace_state
theorem mapStringOf_sp (hML : ∀ w, E.G w → ML w) (hD : ∀ w, E.G w → DB w) (b : ByteArray) (ps : List ByteArray) (es : List Int) (hp : ps.length ≤ 100000000000000) (he : es.length ≤ 100000000000000) : Sp (cx Tryd.prog mixed tyT_ok E) 11 [encB b ps es] (encO (mapR b ps es)) := by
  have h1 := bundledForm_sp E b ps es hp he
  obtain ⟨r, hr⟩ : ∃ r, r = mapR b ps es := ⟨_, rfl⟩
  rw [← hr]
  unfold mapR bunE at hr
  have hend : ∀ (e : Res) (c : Int), e = errR c → Dle (cx Tryd.prog mixed tyT_ok E) (.tup [dS ⟨#[]⟩, i64 c]) (encO e) := fun e c h => by rw [h]; exact Dle.refl _ _
  by_cases hb0 : (200000 : Int) < b.size
  · rw [if_pos (by rw [if_pos hb0]; decide), if_pos hb0] at hr
    refine Sp.body Tryd.func11 (by kernel_rfl) rfl (by kernel_rfl) (by kernel_rfl) (by kernel_rfl) ?_
    repeat' first
      | (refine facW_intro ?_; intro _)
      | refine Or.inl ?_
      | ((conv => whnf); first | (refine condW_dec ?_ ?_ <;> intro _ <;> try (exfalso; omega)) | refine condW_not ?_ | (refine condW_bool ?_ ?_ <;> intro _ <;> try (exfalso; omega)) | (refine nbC_t (fun _ => ?_) ?_) | (refine nbC_f ?_ (fun _ => ?_)))
      | refine And.intro (by first | omega | (simp only [Int.toNat_natCast] at *; omega) | (simp only [Nat.reduceAdd, Int.cast_ofNat_Int, true_and, and_true]; omega) | kernel_rfl) ?_
      | refine RegW.run ?_
      | fail
    all_goals first
      | exact hend _ _ hr
      | trace_state
  · rw [if_neg hb0] at hr
    by_cases hf : formB b ps es = true
    · rw [if_neg (by rw [if_pos hf]; decide)] at hr
      rw [hf] at h1
      have hE : ∀ c, pfE ps 0 = c → c ≠ 0 → r = errR c := fun c h1 h2 => by rw [h1, if_pos h2] at hr; exact hr
      have hO : pfE ps 0 = 0 → r = ⟨mtxt ps es ps.length, 0⟩ := fun h => by rw [if_neg (fun g => g h)] at hr; exact hr
      clear hr
      obtain ⟨f1, f2, f3, f4⟩ := formB_iff.1 hf
      refine Sp.body Tryd.func11 (by kernel_rfl) rfl (by kernel_rfl) (by kernel_rfl) (by kernel_rfl) ?_
      repeat' first
        | (refine facW_intro ?_; intro _)
        | refine Or.inl ?_
        | ((conv => whnf); first | (refine condW_dec ?_ ?_ <;> intro _ <;> try (exfalso; omega)) | refine condW_not ?_ | (refine condW_bool ?_ ?_ <;> intro _ <;> try (exfalso; omega)) | (refine nbC_t (fun _ => ?_) ?_) | (refine nbC_f ?_ (fun _ => ?_)))
        | refine And.intro (by first | omega | (simp only [Int.toNat_natCast] at *; omega) | (simp only [Nat.reduceAdd, Int.cast_ofNat_Int, true_and, and_true]; omega) | kernel_rfl) ?_
        | refine RegW.run ?_
        | refine ⟨_, h1, ?_⟩
        | fail
      all_goals try (exfalso; rename_i h; exact h rfl)
      refine ⟨Nat, fun k => [(18, i64 k), (4, dS (mtxt ps es k)), (5, i64 (pv es k))], fun k => [], [1], fun k => [], fun k => k ≤ ps.length ∧ pfE ps k = pfE ps 0 ∧ ∀ i, i < k → pathB (ps.getD i ⟨#[]⟩) = true, fun k => ps.length - k, ⟨0, ⟨by omega, rfl, fun i hi => absurd hi (by omega)⟩, ⟨[], ⟨by kernel_rfl, by kernel_rfl, by kernel_rfl, by kernel_rfl, by kernel_rfl, by kernel_rfl, by kernel_rfl⟩, (by repeat' first | exact trivial | exact rfl | kernel_rfl | exact Dle.of_eq rfl | exact MLe.of_eq rfl | exact Dle.i (by omega) | exact Dle.i (by simp only [Int.toNat_natCast] at *; omega) | exact Dle.nil | exact Dle.rc Dle.nil | exact Option.some_ne_none _ | exact Or.inl rfl | exact Or.inr trivial | omega | (simp only [Int.toNat_natCast] at *; omega) | (intro _ _ _ _; exact Dle.of_eq rfl) | refine And.intro ?_ ?_)⟩⟩, fun k hk => ?_⟩
      obtain ⟨hk, hpf, hall⟩ := hk
      by_cases hlt : k < ps.length
      · have hip := r_isPath_sp E hML (ps.getD k ⟨#[]⟩)
        by_cases hpp : pathB (ps.getD k ⟨#[]⟩) = true
        · rw [hpp] at hip
          have h2 : Sp (cx Tryd.prog mixed tyT_ok E) 16 [dS (ps.getD ((k : Int)).toNat ⟨#[]⟩)] (dB true) := hip
          have hco := contS_sp E ps k (ps.getD k ⟨#[]⟩) (by omega)
          by_cases hin : inK ps k (ps.getD k ⟨#[]⟩) = true
          · rw [hin] at hco
            have h3 : Sp (cx Tryd.prog mixed tyT_ok E) 29 [.sl 1 16 (((k : Int)).toNat - ((0 : Int)).toNat) (fun i _ => dS (ps.getD (i + ((0 : Int)).toNat) ⟨#[]⟩)), dS (ps.getD ((k : Int)).toNat ⟨#[]⟩)] (dB true) := hco
            have h6 := hE 6 (hpf.symm.trans (pfE_dup hlt hpp hin)) (by decide)
            repeat' first
              | (refine facW_intro ?_; intro _)
              | refine Or.inl ?_
              | ((conv => whnf); first | (refine condW_dec ?_ ?_ <;> intro _ <;> try (exfalso; omega)) | refine condW_not ?_ | (refine condW_bool ?_ ?_ <;> intro _ <;> try (exfalso; omega)) | (refine nbC_t (fun _ => ?_) ?_) | (refine nbC_f ?_ (fun _ => ?_)))
              | refine And.intro (by first | omega | (simp only [Int.toNat_natCast] at *; omega) | (simp only [Nat.reduceAdd, Int.cast_ofNat_Int, true_and, and_true]; omega) | kernel_rfl) ?_
              | refine RegW.run ?_
              | refine ⟨_, h2, ?_⟩
              | refine ⟨_, h3, ?_⟩
              | fail
            all_goals first
              | (exfalso; rename_i h; exact h rfl)
              | exact hend _ _ h6
              | trace_state
          · have hin2 : inK ps k (ps.getD k ⟨#[]⟩) = false := by simpa using hin
            rw [hin2] at hco
            have h3 : Sp (cx Tryd.prog mixed tyT_ok E) 29 [.sl 1 16 (((k : Int)).toNat - ((0 : Int)).toNat) (fun i _ => dS (ps.getD (i + ((0 : Int)).toNat) ⟨#[]⟩)), dS (ps.getD ((k : Int)).toNat ⟨#[]⟩)] (dB false) := hco
            have hpf2 := (pfE_next hlt hpp hin).symm.trans hpf
            have hall2 : ∀ i, i < k + 1 → pathB (ps.getD i ⟨#[]⟩) = true := fun i hi => by
              rcases Nat.lt_or_ge i k with h | h
              · exact hall i h
              · obtain rfl : i = k := by omega
                exact hpp
            have hn := form_k hb0 hf (k := k) (by omega)
            have h4 : Sp (cx Tryd.prog mixed tyT_ok E) 30 [i64 (es.getD ((k : Int)).toNat 0 - pv es k), i64 32] (dS (bs (b32 (es.getD ((k : Int)).toNat 0 - pv es k)))) := fi_sp E hD _ hn.1 (by omega)
            have hs := sizes (p := ps.getD ((k : Int)).toNat ⟨#[]⟩) (q := bs (b32 (es.getD ((k : Int)).toNat 0 - pv es k))) hpp (by rw [bs_size]; exact b32_len _) (mtxt_size (es := es) hall) (by omega : k ≤ 40)
            repeat' first
              | (refine facW_intro ?_; intro _)
              | refine Or.inl ?_
              | ((conv => whnf); first | (refine condW_dec ?_ ?_ <;> intro _ <;> try (exfalso; omega)) | refine condW_not ?_ | (refine condW_bool ?_ ?_ <;> intro _ <;> try (exfalso; omega)) | (refine nbC_t (fun _ => ?_) ?_) | (refine nbC_f ?_ (fun _ => ?_)))
              | refine And.intro (by first | omega | (simp only [Int.toNat_natCast] at *; omega) | (simp only [Nat.reduceAdd, Int.cast_ofNat_Int, true_and, and_true]; omega) | kernel_rfl) ?_
              | refine RegW.run ?_
              | refine ⟨_, h2, ?_⟩
              | refine ⟨_, h3, ?_⟩
              | refine ⟨_, h4, ?_⟩
              | fail
            all_goals first
              | exact ⟨k + 1, ⟨by omega, hpf2, hall2⟩, ⟨[], ⟨by kernel_rfl, by kernel_rfl, by kernel_rfl, by kernel_rfl, by kernel_rfl, by kernel_rfl, by kernel_rfl⟩, (by repeat' first | ((first | exact Dle.i (pv_s es k).symm | exact Dle.of_eq rfl)) | exact trivial | exact rfl | kernel_rfl | exact Dle.of_eq rfl | exact MLe.of_eq rfl | exact Dle.i (by omega) | exact Dle.i (by simp only [Int.toNat_natCast] at *; omega) | exact Dle.nil | exact Dle.rc Dle.nil | exact Option.some_ne_none _ | exact Or.inl rfl | exact Or.inr trivial | omega | (simp only [Int.toNat_natCast] at *; omega) | (intro _ _ _ _; exact Dle.of_eq rfl) | refine And.intro ?_ ?_)⟩, by first | omega | (dsimp only; omega)⟩
              | (exfalso; rename_i h; exact h rfl)
              | (exfalso; rename_i h; cases h)
              | trace_state
        · rw [show pathB (ps.getD k ⟨#[]⟩) = false by simpa using hpp] at hip
          have h2 : Sp (cx Tryd.prog mixed tyT_ok E) 16 [dS (ps.getD ((k : Int)).toNat ⟨#[]⟩)] (dB false) := hip
          have h3 := hE 3 (hpf.symm.trans (pfE_path hlt hpp)) (by decide)
          repeat' first
            | (refine facW_intro ?_; intro _)
            | refine Or.inl ?_
            | ((conv => whnf); first | (refine condW_dec ?_ ?_ <;> intro _ <;> try (exfalso; omega)) | refine condW_not ?_ | (refine condW_bool ?_ ?_ <;> intro _ <;> try (exfalso; omega)) | (refine nbC_t (fun _ => ?_) ?_) | (refine nbC_f ?_ (fun _ => ?_)))
            | refine And.intro (by first | omega | (simp only [Int.toNat_natCast] at *; omega) | (simp only [Nat.reduceAdd, Int.cast_ofNat_Int, true_and, and_true]; omega) | kernel_rfl) ?_
            | refine RegW.run ?_
            | refine ⟨_, h2, ?_⟩
            | fail
          all_goals first
            | exact hend _ _ h3
            | (exfalso; rename_i h; exact h rfl)
            | (exfalso; rename_i h; cases h)
            | trace_state
      · obtain rfl : k = ps.length := by omega
        have h0 := hO (hpf.symm.trans (pfE_end hlt))
        repeat' first
          | (refine facW_intro ?_; intro _)
          | refine Or.inl ?_
          | ((conv => whnf); first | (refine condW_dec ?_ ?_ <;> intro _ <;> try (exfalso; omega)) | refine condW_not ?_ | (refine condW_bool ?_ ?_ <;> intro _ <;> try (exfalso; omega)) | (refine nbC_t (fun _ => ?_) ?_) | (refine nbC_f ?_ (fun _ => ?_)))
          | refine And.intro (by first | omega | (simp only [Int.toNat_natCast] at *; omega) | (simp only [Nat.reduceAdd, Int.cast_ofNat_Int, true_and, and_true]; omega) | kernel_rfl) ?_
          | refine RegW.run ?_
          | fail
        all_goals first
          | (rw [h0]; exact Dle.refl _ _)
          | trace_state
    · rw [if_pos (by rw [if_neg hf]; decide), if_neg hf] at hr
      rw [show formB b ps es = false by simpa using hf] at h1
      refine Sp.body Tryd.func11 (by kernel_rfl) rfl (by kernel_rfl) (by kernel_rfl) (by kernel_rfl) ?_
      repeat' first
        | (refine facW_intro ?_; intro _)
        | refine Or.inl ?_
        | ((conv => whnf); first | (refine condW_dec ?_ ?_ <;> intro _ <;> try (exfalso; omega)) | refine condW_not ?_ | (refine condW_bool ?_ ?_ <;> intro _ <;> try (exfalso; omega)) | (refine nbC_t (fun _ => ?_) ?_) | (refine nbC_f ?_ (fun _ => ?_)))
        | refine And.intro (by first | omega | (simp only [Int.toNat_natCast] at *; omega) | (simp only [Nat.reduceAdd, Int.cast_ofNat_Int, true_and, and_true]; omega) | kernel_rfl) ?_
        | refine RegW.run ?_
        | refine ⟨_, h1, ?_⟩
        | fail
      all_goals first
        | exact hend _ _ hr
        | (exfalso; rename_i h; exact h rfl)
        | (exfalso; rename_i h; cases h)
        | trace_state
theorem assetMaps_sp (hML : ∀ w, E.G w → ML w) (hD : ∀ w, E.G w → DB w) (b : ByteArray) (ps : List ByteArray) (es : List Int) (hp : ps.length ≤ 100000000000000) (he : es.length ≤ 100000000000000) : Sp (cx Tryd.prog mixed tyT_ok E) 5 [encB b ps es] (dB true) := by
  have h1 := mapString_sp E hML b ps es hp he
  have h2 := mapStringOf_sp E hML hD b ps es hp he
  generalize mapR b ps es = r at h1 h2
  refine Sp.body Tryd.func5 (by kernel_rfl) rfl (by kernel_rfl) (by kernel_rfl) (by kernel_rfl) ?_
  repeat' first
    | (refine facW_intro ?_; intro _)
    | refine Or.inl ?_
    | ((conv => whnf); first | (refine condW_dec ?_ ?_ <;> intro _ <;> try (exfalso; omega)) | refine condW_not ?_ | (refine condW_bool ?_ ?_ <;> intro _ <;> try (exfalso; omega)) | (refine nbC_t (fun _ => ?_) ?_) | (refine nbC_f ?_ (fun _ => ?_)))
    | refine And.intro (by first | omega | (simp only [Int.toNat_natCast] at *; omega) | (simp only [Nat.reduceAdd, Int.cast_ofNat_Int, true_and, and_true]; omega) | kernel_rfl) ?_
    | refine RegW.run ?_
    | refine ⟨_, h1, ?_⟩
    | refine ⟨_, h2, ?_⟩
    | fail
  all_goals first
    | (exfalso; rename_i h; exact h rfl)
    | exact Dle.bo (by simp)
    | trace_state
end
end Go.Proofs.YtagggnjcpjodjaaDoor.mp32
