/-
  Tokens made smaller: the reference's keptInStyle, keptInScript, smaller.
-/
import Derived.Test.YtdmbodlkkdeaoaaSh1
namespace Go.Proofs.Ytdmbodlkkdeaoaa
open Go.RowKit
set_option linter.unusedVariables false
set_option linter.unusedSimpArgs false
namespace sh
open bl tk
theorem amT_no4 {t : Tok} {m : ByteArray} (h : t.1 = 4) : amT t m = false := by
  unfold amT
  rw [decide_eq_false (by omega)]
  rfl
theorem con_semi : ∀ n : Fin 256, Lib.contains [59] [UInt8.ofNat n.val] = true → Lib.contains [125] [UInt8.ofNat n.val] = false := by decide +kernel
theorem amT_two {t : Tok} (h : amT t (⟨#[59]⟩ : ByteArray) = true) : amT t ⟨#[125]⟩ = false := by
  unfold amT at h ⊢
  simp only [Bool.and_eq_true, decide_eq_true_eq] at h
  obtain ⟨h1, h2, h3⟩ := h
  have hl : t.2.data.toList.length = 1 := by simpa using (show t.2.size = 1 by omega)
  obtain ⟨c, hc⟩ := List.length_eq_one_iff.1 hl
  rw [hc] at h3 ⊢
  have e : UInt8.ofNat c.toNat = c := UInt8.ofNat_toNat
  have := con_semi ⟨c.toNat, c.toNat_lt⟩
  simp only [e] at this
  rw [this h3]
  simp
section
variable (E : Env)
set_option maxRecDepth 100000
/-- A row of tokens and one more. -/
theorem row_tok (l : List Tok) (t : Tok) (cs : List DD) (hcs : cs = [i64 t.1, dS t.2]) (i j : Nat) (hi : i < l.length + 1) (hj : j < 2) : Dle (cx Try.prog mixed tyT_ok E) (if i < l.length then tokR l i j else cs.getD ((i - l.length + 0) * 2 + j) .opq) (tokR (l ++ [t]) i j) := by
  subst hcs
  rcases Nat.lt_or_ge i l.length with h | h
  · rw [if_pos h]
    refine Dle.of_eq ?_
    unfold tokR
    simp only [List.getD]
    rw [List.getElem?_append_left h]
  · obtain rfl : i = l.length := by omega
    rw [if_neg (by omega)]
    match j, hj with
    | 0, _ => exact Dle.of_eq (by simp [tokR, List.getD])
    | 1, _ => exact Dle.of_eq (by simp [tokR, List.getD])
theorem keptInScript_sp (k : Int) (hk : ¬ k = 1) (s : List Tok) (hsl : s.length ≤ 1000000000) (i : Nat) (hi : i < s.length) : Sp (cx Try.prog mixed tyT_ok E) 53 [encToks s, i64 i] (dB (stayT k s i)) := by
  obtain ⟨q, hq⟩ : ∃ q, q = stayT k s i := ⟨_, rfl⟩
  rw [← hq]
  unfold stayT needT at hq
  by_cases h4 : (s.getD ((i : Int)).toNat (0, ⟨#[]⟩)).1 = 4
  · have hq : q = if i = 0 ∨ (i : Int) = (s.length : Int) - 1 then false else decide ((s.getD (i - 1) zt).1 = (s.getD (i + 1) zt).1) && (decide ((s.getD (i - 1) zt).1 = 1) || decide ((s.getD (i - 1) zt).1 = 3)) := by
      rw [if_pos (show (s.getD i zt).1 = 4 from h4), if_neg hk] at hq
      exact hq
    by_cases h0 : i = 0 ∨ (i : Int) = (s.length : Int) - 1
    · rw [if_pos h0] at hq
      subst hq
      refine Sp.body Try.func53 (by kernel_rfl) rfl (by kernel_rfl) (by kernel_rfl) (by kernel_rfl) ?_
      repeat' first
        | (refine facW_intro ?_; intro _)
        | refine Or.inl ?_
        | ((conv => whnf); first | (refine condW_dec ?_ ?_ <;> intro _ <;> try (exfalso; omega)) | refine condW_not ?_ | (refine condW_bool ?_ ?_ <;> intro _ <;> try (exfalso; omega)) | (refine nbC_t (fun _ => ?_) ?_) | (refine nbC_f ?_ (fun _ => ?_)))
        | refine And.intro (by first | omega | (simp only [Int.toNat_natCast] at *; omega) | (simp only [Nat.reduceAdd, Int.cast_ofNat_Int, true_and, and_true]; omega) | kernel_rfl) ?_
        | refine RegW.run ?_
        | fail
      all_goals first
        | (exfalso; omega)
        | (exfalso; exact absurd h4 (by assumption))
        | exact Dle.refl _ _
        | trace_state
    · have e1 : i - 1 = ((i : Int) - 1).toNat := by omega
      have e2 : i + 1 = ((i : Int) + 1).toNat := by omega
      rw [if_neg h0, e1, e2] at hq
      refine Sp.body Try.func53 (by kernel_rfl) rfl (by kernel_rfl) (by kernel_rfl) (by kernel_rfl) ?_
      repeat' first
        | (refine facW_intro ?_; intro _)
        | refine Or.inl ?_
        | ((conv => whnf); first | (refine condW_dec ?_ ?_ <;> intro _ <;> try (exfalso; omega)) | refine condW_not ?_ | (refine condW_bool ?_ ?_ <;> intro _ <;> try (exfalso; omega)) | (refine nbC_t (fun _ => ?_) ?_) | (refine nbC_f ?_ (fun _ => ?_)))
        | refine And.intro (by first | omega | (simp only [Int.toNat_natCast] at *; omega) | (simp only [Nat.reduceAdd, Int.cast_ofNat_Int, true_and, and_true]; omega) | kernel_rfl) ?_
        | refine RegW.run ?_
        | fail
      all_goals first
        | (exfalso; omega)
        | (exfalso; exact absurd h4 (by assumption))
        | exact Dle.bo (by subst hq; first | (simp_all; done) | (simp_all; omega))
        | trace_state
  · have hq : q = true := by
      rw [if_neg (show ¬ (s.getD i zt).1 = 4 from h4), if_neg hk] at hq
      exact hq
    subst hq
    refine Sp.body Try.func53 (by kernel_rfl) rfl (by kernel_rfl) (by kernel_rfl) (by kernel_rfl) ?_
    repeat' first
      | (refine facW_intro ?_; intro _)
      | refine Or.inl ?_
      | ((conv => whnf); first | (refine condW_dec ?_ ?_ <;> intro _ <;> try (exfalso; omega)) | refine condW_not ?_ | (refine condW_bool ?_ ?_ <;> intro _ <;> try (exfalso; omega)) | (refine nbC_t (fun _ => ?_) ?_) | (refine nbC_f ?_ (fun _ => ?_)))
      | refine And.intro (by first | omega | (simp only [Int.toNat_natCast] at *; omega) | (simp only [Nat.reduceAdd, Int.cast_ofNat_Int, true_and, and_true]; omega) | kernel_rfl) ?_
      | refine RegW.run ?_
      | fail
    all_goals first
      | (exfalso; exact h4 (by assumption))
      | exact Dle.refl _ _
      | trace_state
set_option maxHeartbeats 4000000 in
theorem keptInStyle_sp (hML : ∀ w, E.G w → ML w) (s : List Tok) (hsl : s.length ≤ 1000000000) (i : Nat) (hi : i < s.length) : Sp (cx Try.prog mixed tyT_ok E) 52 [encToks s, i64 i] (dB (stayT 1 s i)) := by
  obtain ⟨q, hq⟩ : ∃ q, q = stayT 1 s i := ⟨_, rfl⟩
  rw [← hq]
  unfold stayT needT idleT at hq
  have hm := isMark_sp E hML (s.getD ((i : Int)).toNat (0, ⟨#[]⟩)) (⟨#[59]⟩ : ByteArray) (by decide)
  by_cases hs : amT (s.getD ((i : Int)).toNat (0, ⟨#[]⟩)) (⟨#[59]⟩ : ByteArray) = true
  · have h4 : ¬ (s.getD i zt).1 = 4 := by
      intro g
      unfold amT at hs
      simp only [Bool.and_eq_true, decide_eq_true_eq] at hs
      have h3 : (s.getD i zt).1 = 3 := hs.1
      omega
    have hq : q = !endsT s (i + 1) := by
      rw [if_neg h4, if_pos rfl, if_neg h4, if_pos (show amT (s.getD i zt) (⟨#[59]⟩ : ByteArray) = true from hs)] at hq
      exact hq
    rw [hs] at hm
    refine Sp.body Try.func52 (by kernel_rfl) rfl (by kernel_rfl) (by kernel_rfl) (by kernel_rfl) ?_
    repeat' first
      | (refine facW_intro ?_; intro _)
      | refine Or.inl ?_
      | ((conv => whnf); first | (refine condW_dec ?_ ?_ <;> intro _ <;> try (exfalso; omega)) | refine condW_not ?_ | (refine condW_bool ?_ ?_ <;> intro _ <;> try (exfalso; omega)) | (refine nbC_t (fun _ => ?_) ?_) | (refine nbC_f ?_ (fun _ => ?_)))
      | refine And.intro (by first | omega | (simp only [Int.toNat_natCast] at *; omega) | (simp only [Nat.reduceAdd, Int.cast_ofNat_Int, true_and, and_true]; omega) | kernel_rfl) ?_
      | refine RegW.run ?_
      | refine ⟨_, hm, ?_⟩
      | fail
    all_goals try (exfalso; rename_i h; exact absurd h (by decide))
    refine ⟨Nat, fun m => [(19, i64 m)], fun m => [], [], fun m => [], fun m => i + 1 + m ≤ s.length ∧ q = !endsT s (i + 1 + m), fun m => s.length - m, ⟨0, ⟨by omega, hq⟩, ⟨[], ⟨by kernel_rfl, by kernel_rfl, by kernel_rfl, by kernel_rfl, by kernel_rfl, by kernel_rfl, by kernel_rfl⟩, (by repeat' first | exact trivial | exact rfl | kernel_rfl | exact Dle.of_eq rfl | exact MLe.of_eq rfl | exact Dle.i (by omega) | exact Dle.i (by simp only [Int.toNat_natCast] at *; omega) | exact Dle.nil | exact Dle.rc Dle.nil | exact Option.some_ne_none _ | exact Or.inl rfl | exact Or.inr trivial | omega | (simp only [Int.toNat_natCast] at *; omega) | (intro _ _ _ _; exact Dle.of_eq rfl) | refine And.intro ?_ ?_)⟩⟩, fun m hm => ?_⟩
    obtain ⟨hmm, hK⟩ := hm
    by_cases hlt : i + 1 + m < s.length
    · have ex : ((m : Int)).toNat + ((i : Int) + 1).toNat = i + 1 + m := by omega
      have hm1 := isMark_sp E hML (s.getD (((m : Int)).toNat + ((i : Int) + 1).toNat) (0, ⟨#[]⟩)) ⟨#[125]⟩ (by decide)
      have hm2 := isMark_sp E hML (s.getD (((m : Int)).toNat + ((i : Int) + 1).toNat) (0, ⟨#[]⟩)) (⟨#[59]⟩ : ByteArray) (by decide)
      have g1 := endsT_blank hlt
      have g2 := endsT_semi hlt
      have g3 := endsT_other hlt
      have n1 := fun h => amT_no4 (t := s.getD (i + 1 + m) zt) (m := ⟨#[125]⟩) h
      have n2 := fun h => amT_two (t := s.getD (i + 1 + m) zt) h
      rw [show i + 1 + m + 1 = i + 1 + (m + 1) by omega] at g1 g2
      rw [show s.getD (i + 1 + m) zt = s.getD (((m : Int)).toNat + ((i : Int) + 1).toNat) (0, ⟨#[]⟩) by rw [ex]] at g1 g2 g3 n1 n2
      generalize amT (s.getD (((m : Int)).toNat + ((i : Int) + 1).toNat) (0, ⟨#[]⟩)) ⟨#[125]⟩ = B at hm1 g3 n1 n2
      generalize amT (s.getD (((m : Int)).toNat + ((i : Int) + 1).toNat) (0, ⟨#[]⟩)) (⟨#[59]⟩ : ByteArray) = A at hm2 g2 g3 n2
      by_cases h4b : (s.getD (((m : Int)).toNat + ((i : Int) + 1).toNat) (0, ⟨#[]⟩)).1 = 4
      · rw [g1 h4b] at hK
        have n1 := n1 h4b
        subst n1
        repeat' first
          | (refine facW_intro ?_; intro _)
          | refine Or.inl ?_
          | ((conv => whnf); first | (refine condW_dec ?_ ?_ <;> intro _ <;> try (exfalso; omega)) | refine condW_not ?_ | (refine condW_bool ?_ ?_ <;> intro _ <;> try (exfalso; omega)) | (refine nbC_t (fun _ => ?_) ?_) | (refine nbC_f ?_ (fun _ => ?_)))
          | refine And.intro (by first | omega | (simp only [Int.toNat_natCast] at *; omega) | (simp only [Nat.reduceAdd, Int.cast_ofNat_Int, true_and, and_true]; omega) | kernel_rfl) ?_
          | refine RegW.run ?_
          | refine ⟨_, hm1, ?_⟩
          | refine ⟨_, hm2, ?_⟩
          | fail
        all_goals first
          | (exfalso; exact absurd h4b (by assumption))
          | exact ⟨m + 1, ⟨by omega, hK⟩, ⟨[], ⟨by kernel_rfl, by kernel_rfl, by kernel_rfl, by kernel_rfl, by kernel_rfl, by kernel_rfl, by kernel_rfl⟩, (by repeat' first | exact trivial | exact rfl | kernel_rfl | exact Dle.of_eq rfl | exact MLe.of_eq rfl | exact Dle.i (by omega) | exact Dle.i (by simp only [Int.toNat_natCast] at *; omega) | exact Dle.nil | exact Dle.rc Dle.nil | exact Option.some_ne_none _ | exact Or.inl rfl | exact Or.inr trivial | omega | (simp only [Int.toNat_natCast] at *; omega) | (intro _ _ _ _; exact Dle.of_eq rfl) | refine And.intro ?_ ?_)⟩, by first | omega | (dsimp only; omega)⟩
          | trace_state
      · cases A
        · rw [g3 h4b rfl] at hK
          subst hK
          cases B
          · repeat' first
              | (refine facW_intro ?_; intro _)
              | refine Or.inl ?_
              | ((conv => whnf); first | (refine condW_dec ?_ ?_ <;> intro _ <;> try (exfalso; omega)) | refine condW_not ?_ | (refine condW_bool ?_ ?_ <;> intro _ <;> try (exfalso; omega)) | (refine nbC_t (fun _ => ?_) ?_) | (refine nbC_f ?_ (fun _ => ?_)))
              | refine And.intro (by first | omega | (simp only [Int.toNat_natCast] at *; omega) | (simp only [Nat.reduceAdd, Int.cast_ofNat_Int, true_and, and_true]; omega) | kernel_rfl) ?_
              | refine RegW.run ?_
              | refine ⟨_, hm1, ?_⟩
              | refine ⟨_, hm2, ?_⟩
              | fail
            all_goals first
              | (exfalso; exact h4b (by assumption))
              | exact Dle.refl _ _
              | trace_state
          · repeat' first
              | (refine facW_intro ?_; intro _)
              | refine Or.inl ?_
              | ((conv => whnf); first | (refine condW_dec ?_ ?_ <;> intro _ <;> try (exfalso; omega)) | refine condW_not ?_ | (refine condW_bool ?_ ?_ <;> intro _ <;> try (exfalso; omega)) | (refine nbC_t (fun _ => ?_) ?_) | (refine nbC_f ?_ (fun _ => ?_)))
              | refine And.intro (by first | omega | (simp only [Int.toNat_natCast] at *; omega) | (simp only [Nat.reduceAdd, Int.cast_ofNat_Int, true_and, and_true]; omega) | kernel_rfl) ?_
              | refine RegW.run ?_
              | refine ⟨_, hm1, ?_⟩
              | refine ⟨_, hm2, ?_⟩
              | fail
            all_goals first
              | exact Dle.refl _ _
              | trace_state
        · rw [g2 h4b rfl] at hK
          have n2 := n2 rfl
          subst n2
          repeat' first
            | (refine facW_intro ?_; intro _)
            | refine Or.inl ?_
            | ((conv => whnf); first | (refine condW_dec ?_ ?_ <;> intro _ <;> try (exfalso; omega)) | refine condW_not ?_ | (refine condW_bool ?_ ?_ <;> intro _ <;> try (exfalso; omega)) | (refine nbC_t (fun _ => ?_) ?_) | (refine nbC_f ?_ (fun _ => ?_)))
            | refine And.intro (by first | omega | (simp only [Int.toNat_natCast] at *; omega) | (simp only [Nat.reduceAdd, Int.cast_ofNat_Int, true_and, and_true]; omega) | kernel_rfl) ?_
            | refine RegW.run ?_
            | refine ⟨_, hm1, ?_⟩
            | refine ⟨_, hm2, ?_⟩
            | fail
          all_goals first
            | (exfalso; exact h4b (by assumption))
            | exact ⟨m + 1, ⟨by omega, hK⟩, ⟨[], ⟨by kernel_rfl, by kernel_rfl, by kernel_rfl, by kernel_rfl, by kernel_rfl, by kernel_rfl, by kernel_rfl⟩, (by repeat' first | exact trivial | exact rfl | kernel_rfl | exact Dle.of_eq rfl | exact MLe.of_eq rfl | exact Dle.i (by omega) | exact Dle.i (by simp only [Int.toNat_natCast] at *; omega) | exact Dle.nil | exact Dle.rc Dle.nil | exact Option.some_ne_none _ | exact Or.inl rfl | exact Or.inr trivial | omega | (simp only [Int.toNat_natCast] at *; omega) | (intro _ _ _ _; exact Dle.of_eq rfl) | refine And.intro ?_ ?_)⟩, by first | omega | (dsimp only; omega)⟩
            | trace_state
    · rw [endsT_end hlt] at hK
      subst hK
      repeat' first
        | (refine facW_intro ?_; intro _)
        | refine Or.inl ?_
        | ((conv => whnf); first | (refine condW_dec ?_ ?_ <;> intro _ <;> try (exfalso; omega)) | refine condW_not ?_ | (refine condW_bool ?_ ?_ <;> intro _ <;> try (exfalso; omega)) | (refine nbC_t (fun _ => ?_) ?_) | (refine nbC_f ?_ (fun _ => ?_)))
        | refine And.intro (by first | omega | (simp only [Int.toNat_natCast] at *; omega) | (simp only [Nat.reduceAdd, Int.cast_ofNat_Int, true_and, and_true]; omega) | kernel_rfl) ?_
        | refine RegW.run ?_
        | fail
      all_goals first
        | (exfalso; omega)
        | exact Dle.refl _ _
        | trace_state
  · have hs : amT (s.getD ((i : Int)).toNat (0, ⟨#[]⟩)) (⟨#[59]⟩ : ByteArray) = false := by simpa using hs
    rw [hs] at hm
    by_cases h4 : (s.getD ((i : Int)).toNat (0, ⟨#[]⟩)).1 = 4
    · have hq : q = if i = 0 ∨ (i : Int) = (s.length : Int) - 1 then false else (!amT (s.getD (i - 1) zt) mA) && !amT (s.getD (i + 1) zt) mB := by
        rw [if_pos (show (s.getD i zt).1 = 4 from h4), if_pos rfl] at hq
        exact hq
      by_cases h0 : i = 0 ∨ (i : Int) = (s.length : Int) - 1
      · rw [if_pos h0] at hq
        subst hq
        refine Sp.body Try.func52 (by kernel_rfl) rfl (by kernel_rfl) (by kernel_rfl) (by kernel_rfl) ?_
        repeat' first
          | (refine facW_intro ?_; intro _)
          | refine Or.inl ?_
          | ((conv => whnf); first | (refine condW_dec ?_ ?_ <;> intro _ <;> try (exfalso; omega)) | refine condW_not ?_ | (refine condW_bool ?_ ?_ <;> intro _ <;> try (exfalso; omega)) | (refine nbC_t (fun _ => ?_) ?_) | (refine nbC_f ?_ (fun _ => ?_)))
          | refine And.intro (by first | omega | (simp only [Int.toNat_natCast] at *; omega) | (simp only [Nat.reduceAdd, Int.cast_ofNat_Int, true_and, and_true]; omega) | kernel_rfl) ?_
          | refine RegW.run ?_
          | refine ⟨_, hm, ?_⟩
          | fail
        all_goals first
          | (exfalso; omega)
          | (exfalso; exact absurd h4 (by assumption))
          | exact Dle.refl _ _
          | trace_state
      · have e1 : i - 1 = ((i : Int) - 1).toNat := by omega
        have e2 : i + 1 = ((i : Int) + 1).toNat := by omega
        rw [if_neg h0, e1, e2] at hq
        have ha := isMark_sp E hML (s.getD ((i : Int) - 1).toNat (0, ⟨#[]⟩)) mA (by decide)
        have hb := isMark_sp E hML (s.getD ((i : Int) + 1).toNat (0, ⟨#[]⟩)) mB (by decide)
        generalize amT (s.getD ((i : Int) - 1).toNat (0, ⟨#[]⟩)) mA = a at hq ha
        generalize amT (s.getD ((i : Int) + 1).toNat (0, ⟨#[]⟩)) mB = b at hq hb
        refine Sp.body Try.func52 (by kernel_rfl) rfl (by kernel_rfl) (by kernel_rfl) (by kernel_rfl) ?_
        repeat' first
          | (refine facW_intro ?_; intro _)
          | refine Or.inl ?_
          | ((conv => whnf); first | (refine condW_dec ?_ ?_ <;> intro _ <;> try (exfalso; omega)) | refine condW_not ?_ | (refine condW_bool ?_ ?_ <;> intro _ <;> try (exfalso; omega)) | (refine nbC_t (fun _ => ?_) ?_) | (refine nbC_f ?_ (fun _ => ?_)))
          | refine And.intro (by first | omega | (simp only [Int.toNat_natCast] at *; omega) | (simp only [Nat.reduceAdd, Int.cast_ofNat_Int, true_and, and_true]; omega) | kernel_rfl) ?_
          | refine RegW.run ?_
          | refine ⟨_, hm, ?_⟩
          | refine ⟨_, ha, ?_⟩
          | refine ⟨_, hb, ?_⟩
          | fail
        all_goals first
          | (exfalso; omega)
          | (exfalso; exact absurd h4 (by assumption))
          | exact Dle.bo (by subst hq; simp_all; done)
          | trace_state
    · have hq : q = true := by
        rw [if_neg (show ¬ (s.getD i zt).1 = 4 from h4), if_pos rfl, if_neg (show ¬ (s.getD i zt).1 = 4 from h4), if_neg (by rw [show amT (s.getD i zt) (⟨#[59]⟩ : ByteArray) = false from hs]; decide)] at hq
        exact hq
      subst hq
      refine Sp.body Try.func52 (by kernel_rfl) rfl (by kernel_rfl) (by kernel_rfl) (by kernel_rfl) ?_
      repeat' first
        | (refine facW_intro ?_; intro _)
        | refine Or.inl ?_
        | ((conv => whnf); first | (refine condW_dec ?_ ?_ <;> intro _ <;> try (exfalso; omega)) | refine condW_not ?_ | (refine condW_bool ?_ ?_ <;> intro _ <;> try (exfalso; omega)) | (refine nbC_t (fun _ => ?_) ?_) | (refine nbC_f ?_ (fun _ => ?_)))
        | refine And.intro (by first | omega | (simp only [Int.toNat_natCast] at *; omega) | (simp only [Nat.reduceAdd, Int.cast_ofNat_Int, true_and, and_true]; omega) | kernel_rfl) ?_
        | refine RegW.run ?_
        | refine ⟨_, hm, ?_⟩
        | fail
      all_goals first
        | (exfalso; exact h4 (by assumption))
        | exact Dle.refl _ _
        | trace_state
end
end sh
end Go.Proofs.Ytdmbodlkkdeaoaa
