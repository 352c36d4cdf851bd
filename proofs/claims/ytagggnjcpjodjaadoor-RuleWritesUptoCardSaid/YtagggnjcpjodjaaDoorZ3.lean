/-
  Rules of languages: their faults, their texts; both sides; the law.
-/
import Derived.Test.YtagggnjcpjodjaaDoorZ2
namespace Go.Proofs.YtagggnjcpjodjaaDoor
open Go.RowKit
set_option linter.unusedVariables false
set_option linter.unusedSimpArgs false
namespace rule
theorem allN_snoc (n : Nat) (p : Nat → Bool) : allN (n + 1) p = (allN n p && p n) := by simp [allN, List.range_succ]
def manyK (fs : List Ts) (k : Nat) : Bool := allN k (fun i => !decide (20 < tcnt (fs.getD i .zero)))
@[irreducible] def deepK (fs : List Ts) (k : Nat) : Bool := !allN k (fun i => !decide (12 < tlvl (fs.getD i .zero)))
theorem deep0 (fs : List Ts) : deepK fs 0 = false := by unfold deepK; rfl
def formK (fs : List Ts) (k : Nat) : Bool := allN k (fun i => formB (fs.getD i .zero))
def farK (fs : List Ts) (k : Nat) : Bool := allN k (fun i => rngB (fs.getD i .zero))
theorem all_K {p : Ts → Bool} {fs : List Ts} : fs.all p = allN fs.length (fun i => p (fs.getD i .zero)) := by
  cases h : allN fs.length (fun i => p (fs.getD i .zero))
  · have : ¬ ∀ k, k < fs.length → p (fs.getD k .zero) = true := fun h2 => by rw [allN_iff.2 h2] at h; cases h
    obtain ⟨k, hk⟩ := Classical.not_forall.1 this
    obtain ⟨hk, hp⟩ := Classical.not_imp.1 hk
    exact all_no hk (by simpa using hp)
  · exact all_end h (Nat.le_refl _)
theorem any_K {p : Ts → Bool} {fs : List Ts} : fs.any p = !allN fs.length (fun i => !p (fs.getD i .zero)) := by
  have := all_K (p := fun x => !p x) (fs := fs)
  rw [← this, ← List.not_any_eq_all_not, Bool.not_not]
theorem ruleE_K (fs : List Ts) : ruleE fs = if 6 < fs.length then 4 else if manyK fs fs.length = false then 4 else if deepK fs fs.length = true then 13 else if formK fs fs.length = false then 1 else if farK fs fs.length = false then 2 else 0 := by
  unfold ruleE manyK deepK formK farK
  rw [any_K, any_K, all_K, all_K]
  simp
theorem rule_ok {fs : List Ts} (h : ruleE fs = 0) : fs.length ≤ 6 ∧ ∀ t ∈ fs, tcnt t ≤ 20 ∧ formB t = true ∧ rngB t = true := by
  unfold ruleE at h
  split at h
  · omega
  split at h
  · omega
  split at h
  · omega
  split at h
  · omega
  split at h
  · omega
  rename_i h1 h2 h3 h4 h5
  refine ⟨by omega, fun t ht => ⟨?_, ?_, ?_⟩⟩
  · rcases Nat.lt_or_ge 20 (tcnt t) with h6 | h6
    · exact absurd (List.any_eq_true.2 ⟨t, ht, decide_eq_true h6⟩) h2
    · exact h6
  · have : fs.all formB = true := by simpa using h4
    exact List.all_eq_true.1 this t ht
  · have : fs.all rngB = true := by simpa using h5
    exact List.all_eq_true.1 this t ht
theorem tcnt_getD {fs : List Ts} {k : Nat} (h : k < fs.length) : tcnt (fs.getD k .zero) ≤ tcntL fs := tcnt_mem fs _ (getD_mem fs .zero k h)
/-- The texts of the first k kids. -/
def txs (o : Int) (ks : List Ts) (k : Nat) : List ByteArray := (ks.take k).map (txtK o)
theorem txs_len (o : Int) (ks : List Ts) (k : Nat) (h : k ≤ ks.length) : (txs o ks k).length = k := by simp [txs]; omega
theorem txs_next {o : Int} {ks : List Ts} {k : Nat} (h : k < ks.length) : txs o ks (k + 1) = txs o ks k ++ [txtK o (ks.getD k .zero)] := by
  unfold txs
  rw [take_snoc ks .zero k h, List.map_append]
  rfl
theorem txs_all (o : Int) (ks : List Ts) : txs o ks ks.length = ks.map (txtK o) := by unfold txs; rw [List.take_length]
abbrev refT (t : Ts) : DD := .ref 5 (fun j => ([i64 t.op, i64 t.md, i64 t.lo, i64 t.hi, .rc (.tests t.kids)] : List DD).getD (0 + j) .opq)
theorem par_yes {s : ByteArray} : par true s = ⟨#[40]⟩ ++ s ++ ⟨#[41]⟩ := rfl
theorem par_no {s : ByteArray} : par false s = s := rfl
theorem join_kids {t : Ts} {sep : ByteArray} (hs : sep.size = 3) (hf : formB t = true) (hr : rngB t = true) : (joinS (t.kids.map (txtK t.op)) sep).size ≤ 100 * tcntL t.kids := by
  have h1 := joinS_len (t.kids.map (txtK t.op)) sep
  rw [hs] at h1
  have h2 := sum_kids (f := txtK t.op) (n := 3) t.kids (fun k hk => by
    have h1 := txt_size _ k (Nat.lt_succ_self _) (form_kid hf hk) (rng_kid hf hr hk)
    have h2 := par_size (decide (k.op = 3) && !decide (t.op = 3)) (txt k)
    unfold txtK
    omega)
  omega
def okT (t : Ts) : Prop := formB t = true ∧ rngB t = true ∧ tcnt t ≤ 1000
theorem okT_kid {t x : Ts} (h : okT t) (hx : x ∈ t.kids) : okT x := by
  obtain ⟨h1, h2, h3⟩ := h
  rw [tcnt_eq] at h3
  have := tcnt_mem t.kids x hx
  exact ⟨form_kid h1 hx, rng_kid h1 h2 hx, by omega⟩
section
variable (E : Env)
set_option maxRecDepth 100000
set_option maxHeartbeats 4000000 in
theorem ruleFault_sp (fs : List Ts) (hw : tcntL fs ≤ 100000000) : Sp (cx Tryd.prog mixed tyT_ok E) 21 [encR fs] (i64 (ruleE fs)) := by
  obtain ⟨r, hr⟩ : ∃ r, r = ruleE fs := ⟨_, rfl⟩
  rw [← hr]
  rw [ruleE_K] at hr
  by_cases h6 : 6 < fs.length
  · rw [if_pos h6] at hr
    subst hr
    refine Sp.body Tryd.func21 (by kernel_rfl) rfl (by kernel_rfl) (by kernel_rfl) (by kernel_rfl) ?_
    repeat' first
      | (refine facW_intro ?_; intro _)
      | refine Or.inl ?_
      | ((conv => whnf); first | (refine condW_dec ?_ ?_ <;> intro _ <;> try (exfalso; omega)) | refine condW_not ?_ | (refine condW_bool ?_ ?_ <;> intro _ <;> try (exfalso; omega)) | (refine nbC_t (fun _ => ?_) ?_) | (refine nbC_f ?_ (fun _ => ?_)))
      | refine And.intro (by first | omega | (simp only [Int.toNat_natCast] at *; omega) | (simp only [Nat.reduceAdd, Int.cast_ofNat_Int, true_and, and_true]; omega) | kernel_rfl) ?_
      | refine RegW.run ?_
      | fail
    all_goals exact Dle.refl _ _
  · rw [if_neg h6] at hr
    refine Sp.body Tryd.func21 (by kernel_rfl) rfl (by kernel_rfl) (by kernel_rfl) (by kernel_rfl) ?_
    repeat' first
      | (refine facW_intro ?_; intro _)
      | refine Or.inl ?_
      | ((conv => whnf); first | (refine condW_dec ?_ ?_ <;> intro _ <;> try (exfalso; omega)) | refine condW_not ?_ | (refine condW_bool ?_ ?_ <;> intro _ <;> try (exfalso; omega)) | (refine nbC_t (fun _ => ?_) ?_) | (refine nbC_f ?_ (fun _ => ?_)))
      | refine And.intro (by first | omega | (simp only [Int.toNat_natCast] at *; omega) | (simp only [Nat.reduceAdd, Int.cast_ofNat_Int, true_and, and_true]; omega) | kernel_rfl) ?_
      | refine RegW.run ?_
      | fail
    refine ⟨Nat, fun k => [(18, i64 k)], fun k => [], [1], fun k => [], fun k => k ≤ fs.length ∧ manyK fs k = true, fun k => fs.length - k, ⟨0, ⟨by omega, rfl⟩, ⟨[], ⟨by kernel_rfl, by kernel_rfl, by kernel_rfl, by kernel_rfl, by kernel_rfl, by kernel_rfl, by kernel_rfl⟩, (by repeat' first | exact trivial | exact rfl | kernel_rfl | exact Dle.of_eq rfl | exact MLe.of_eq rfl | exact Dle.i (by omega) | exact Dle.i (by simp only [Int.toNat_natCast] at *; omega) | exact Dle.nil | exact Dle.rc Dle.nil | exact Option.some_ne_none _ | exact Or.inl rfl | exact Or.inr trivial | omega | (simp only [Int.toNat_natCast] at *; omega) | (intro _ _ _ _; exact Dle.of_eq rfl) | refine And.intro ?_ ?_)⟩⟩, fun k hk => ?_⟩
    obtain ⟨hk, hall⟩ := hk
    by_cases hlt : k < fs.length
    · have hm := tmany_cnt (fs.getD k .zero)
      have hb := tcnt_getD hlt
      have hc := tmany_sp E _ (fs.getD k .zero) (Nat.lt_succ_self _) (by omega)
      have hno : 20 < tcnt (fs.getD k .zero) → r = 4 := fun h => hr.trans (if_pos (allN_no hlt (by rw [decide_eq_true h]; rfl)))
      have hyes : ¬ 20 < tcnt (fs.getD k .zero) → manyK fs (k + 1) = true := fun h => allN_succ hall (by rw [decide_eq_false h]; rfl)
      generalize tmany (fs.getD k .zero) = m at hm hc
      repeat' first
        | (refine facW_intro ?_; intro _)
        | refine Or.inl ?_
        | ((conv => whnf); first | (refine condW_dec ?_ ?_ <;> intro _ <;> try (exfalso; omega)) | refine condW_not ?_ | (refine condW_bool ?_ ?_ <;> intro _ <;> try (exfalso; omega)) | (refine nbC_t (fun _ => ?_) ?_) | (refine nbC_f ?_ (fun _ => ?_)))
        | refine And.intro (by first | omega | (simp only [Int.toNat_natCast] at *; omega) | (simp only [Nat.reduceAdd, Int.cast_ofNat_Int, true_and, and_true]; omega) | kernel_rfl) ?_
        | refine RegW.run ?_
        | refine ⟨_, hc, ?_⟩
        | fail
      all_goals first
        | exact ⟨k + 1, ⟨by omega, hyes (by omega)⟩, ⟨[], ⟨by kernel_rfl, by kernel_rfl, by kernel_rfl, by kernel_rfl, by kernel_rfl, by kernel_rfl, by kernel_rfl⟩, (by repeat' first | exact trivial | exact rfl | kernel_rfl | exact Dle.of_eq rfl | exact MLe.of_eq rfl | exact Dle.i (by omega) | exact Dle.i (by simp only [Int.toNat_natCast] at *; omega) | exact Dle.nil | exact Dle.rc Dle.nil | exact Option.some_ne_none _ | exact Or.inl rfl | exact Or.inr trivial | omega | (simp only [Int.toNat_natCast] at *; omega) | (intro _ _ _ _; exact Dle.of_eq rfl) | refine And.intro ?_ ?_)⟩, by first | omega | (dsimp only; omega)⟩
        | exact Dle.i (hno (by omega)).symm
        | trace_state
    · obtain rfl : k = fs.length := by omega
      rw [if_neg (by rw [hall]; decide)] at hr
      repeat' first
        | (refine facW_intro ?_; intro _)
        | refine Or.inl ?_
        | ((conv => whnf); first | (refine condW_dec ?_ ?_ <;> intro _ <;> try (exfalso; omega)) | refine condW_not ?_ | (refine condW_bool ?_ ?_ <;> intro _ <;> try (exfalso; omega)) | (refine nbC_t (fun _ => ?_) ?_) | (refine nbC_f ?_ (fun _ => ?_)))
        | refine And.intro (by first | omega | (simp only [Int.toNat_natCast] at *; omega) | (simp only [Nat.reduceAdd, Int.cast_ofNat_Int, true_and, and_true]; omega) | kernel_rfl) ?_
        | refine RegW.run ?_
        | fail
      refine ⟨Nat, fun k => [(29, i64 k)], fun k => [], [1], fun k => [], fun k => k ≤ fs.length ∧ deepK fs k = false, fun k => fs.length - k, ⟨0, ⟨by omega, deep0 fs⟩, ⟨[], ⟨by kernel_rfl, by kernel_rfl, by kernel_rfl, by kernel_rfl, by kernel_rfl, by kernel_rfl, by kernel_rfl⟩, (by repeat' first | exact trivial | exact rfl | kernel_rfl | exact Dle.of_eq rfl | exact MLe.of_eq rfl | exact Dle.i (by omega) | exact Dle.i (by simp only [Int.toNat_natCast] at *; omega) | exact Dle.nil | exact Dle.rc Dle.nil | exact Option.some_ne_none _ | exact Or.inl rfl | exact Or.inr trivial | omega | (simp only [Int.toNat_natCast] at *; omega) | (intro _ _ _ _; exact Dle.of_eq rfl) | refine And.intro ?_ ?_)⟩⟩, fun k hk => ?_⟩
      obtain ⟨hk, hdk⟩ := hk
      by_cases hlt : k < fs.length
      · have hb := tcnt_getD hlt
        have hlc := tlvl_le_cnt (fs.getD k .zero)
        have hc := tlevels_sp E _ (fs.getD k .zero) (Nat.lt_succ_self _) (by omega)
        have hno : 12 < tlvl (fs.getD k .zero) → r = 13 := fun h => hr.trans (if_pos (by unfold deepK; rw [allN_no hlt (by rw [decide_eq_true h]; rfl)]; rfl))
        have hyes : ¬ 12 < tlvl (fs.getD k .zero) → deepK fs (k + 1) = false := fun h => by unfold deepK at hdk ⊢; rw [allN_snoc, decide_eq_false h]; simpa using hdk
        generalize tlvl (fs.getD k .zero) = m at hc hno hyes hlc
        repeat' first
          | (refine facW_intro ?_; intro _)
          | refine Or.inl ?_
          | ((conv => whnf); first | (refine condW_dec ?_ ?_ <;> intro _ <;> try (exfalso; omega)) | refine condW_not ?_ | (refine condW_bool ?_ ?_ <;> intro _ <;> try (exfalso; omega)) | (refine nbC_t (fun _ => ?_) ?_) | (refine nbC_f ?_ (fun _ => ?_)))
          | refine And.intro (by first | omega | (simp only [Int.toNat_natCast] at *; omega) | (simp only [Nat.reduceAdd, Int.cast_ofNat_Int, true_and, and_true]; omega) | kernel_rfl) ?_
          | refine RegW.run ?_
          | refine ⟨_, hc, ?_⟩
          | fail
        all_goals first
          | exact ⟨k + 1, ⟨by omega, hyes (by omega)⟩, ⟨[], ⟨by kernel_rfl, by kernel_rfl, by kernel_rfl, by kernel_rfl, by kernel_rfl, by kernel_rfl, by kernel_rfl⟩, (by repeat' first | exact trivial | exact rfl | kernel_rfl | exact Dle.of_eq rfl | exact MLe.of_eq rfl | exact Dle.i (by omega) | exact Dle.i (by simp only [Int.toNat_natCast] at *; omega) | exact Dle.nil | exact Dle.rc Dle.nil | exact Option.some_ne_none _ | exact Or.inl rfl | exact Or.inr trivial | omega | (simp only [Int.toNat_natCast] at *; omega) | (intro _ _ _ _; exact Dle.of_eq rfl) | refine And.intro ?_ ?_)⟩, by first | omega | (dsimp only; omega)⟩
          | exact Dle.i (hno (by omega)).symm
          | trace_state
      · obtain rfl : k = fs.length := by omega
        rw [if_neg (by rw [hdk]; decide)] at hr
        repeat' first
          | (refine facW_intro ?_; intro _)
          | refine Or.inl ?_
          | ((conv => whnf); first | (refine condW_dec ?_ ?_ <;> intro _ <;> try (exfalso; omega)) | refine condW_not ?_ | (refine condW_bool ?_ ?_ <;> intro _ <;> try (exfalso; omega)) | (refine nbC_t (fun _ => ?_) ?_) | (refine nbC_f ?_ (fun _ => ?_)))
          | refine And.intro (by first | omega | (simp only [Int.toNat_natCast] at *; omega) | (simp only [Nat.reduceAdd, Int.cast_ofNat_Int, true_and, and_true]; omega) | kernel_rfl) ?_
          | refine RegW.run ?_
          | fail
        refine ⟨Nat, fun k => [(40, i64 k)], fun k => [], [1], fun k => [], fun k => k ≤ fs.length ∧ formK fs k = true, fun k => fs.length - k, ⟨0, ⟨by omega, rfl⟩, ⟨[], ⟨by kernel_rfl, by kernel_rfl, by kernel_rfl, by kernel_rfl, by kernel_rfl, by kernel_rfl, by kernel_rfl⟩, (by repeat' first | exact trivial | exact rfl | kernel_rfl | exact Dle.of_eq rfl | exact MLe.of_eq rfl | exact Dle.i (by omega) | exact Dle.i (by simp only [Int.toNat_natCast] at *; omega) | exact Dle.nil | exact Dle.rc Dle.nil | exact Option.some_ne_none _ | exact Or.inl rfl | exact Or.inr trivial | omega | (simp only [Int.toNat_natCast] at *; omega) | (intro _ _ _ _; exact Dle.of_eq rfl) | refine And.intro ?_ ?_)⟩⟩, fun k hk => ?_⟩
        obtain ⟨hk, hfk⟩ := hk
        by_cases hlt : k < fs.length
        · have hc := tform_sp E _ (fs.getD k .zero) (Nat.lt_succ_self _)
          have hno : formB (fs.getD k .zero) = false → r = 1 := fun h => hr.trans (if_pos (allN_no hlt h))
          have hyes : formB (fs.getD k .zero) = true → formK fs (k + 1) = true := fun h => allN_succ hfk h
          generalize formB (fs.getD k .zero) = b at hc hno hyes
          repeat' first
            | (refine facW_intro ?_; intro _)
            | refine Or.inl ?_
            | ((conv => whnf); first | (refine condW_dec ?_ ?_ <;> intro _ <;> try (exfalso; omega)) | refine condW_not ?_ | (refine condW_bool ?_ ?_ <;> intro _ <;> try (exfalso; omega)) | (refine nbC_t (fun _ => ?_) ?_) | (refine nbC_f ?_ (fun _ => ?_)))
            | refine And.intro (by first | omega | (simp only [Int.toNat_natCast] at *; omega) | (simp only [Nat.reduceAdd, Int.cast_ofNat_Int, true_and, and_true]; omega) | kernel_rfl) ?_
            | refine RegW.run ?_
            | refine ⟨_, hc, ?_⟩
            | fail
          all_goals first
            | exact ⟨k + 1, ⟨by omega, hyes (by assumption)⟩, ⟨[], ⟨by kernel_rfl, by kernel_rfl, by kernel_rfl, by kernel_rfl, by kernel_rfl, by kernel_rfl, by kernel_rfl⟩, (by repeat' first | exact trivial | exact rfl | kernel_rfl | exact Dle.of_eq rfl | exact MLe.of_eq rfl | exact Dle.i (by omega) | exact Dle.i (by simp only [Int.toNat_natCast] at *; omega) | exact Dle.nil | exact Dle.rc Dle.nil | exact Option.some_ne_none _ | exact Or.inl rfl | exact Or.inr trivial | omega | (simp only [Int.toNat_natCast] at *; omega) | (intro _ _ _ _; exact Dle.of_eq rfl) | refine And.intro ?_ ?_)⟩, by first | omega | (dsimp only; omega)⟩
            | exact Dle.i (hno (by assumption)).symm
            | trace_state
        · obtain rfl : k = fs.length := by omega
          rw [if_neg (by rw [hfk]; decide)] at hr
          repeat' first
            | (refine facW_intro ?_; intro _)
            | refine Or.inl ?_
            | ((conv => whnf); first | (refine condW_dec ?_ ?_ <;> intro _ <;> try (exfalso; omega)) | refine condW_not ?_ | (refine condW_bool ?_ ?_ <;> intro _ <;> try (exfalso; omega)) | (refine nbC_t (fun _ => ?_) ?_) | (refine nbC_f ?_ (fun _ => ?_)))
            | refine And.intro (by first | omega | (simp only [Int.toNat_natCast] at *; omega) | (simp only [Nat.reduceAdd, Int.cast_ofNat_Int, true_and, and_true]; omega) | kernel_rfl) ?_
            | refine RegW.run ?_
            | fail
          refine ⟨Nat, fun k => [(51, i64 k)], fun k => [], [1], fun k => [], fun k => k ≤ fs.length ∧ farK fs k = true, fun k => fs.length - k, ⟨0, ⟨by omega, rfl⟩, ⟨[], ⟨by kernel_rfl, by kernel_rfl, by kernel_rfl, by kernel_rfl, by kernel_rfl, by kernel_rfl, by kernel_rfl⟩, (by repeat' first | exact trivial | exact rfl | kernel_rfl | exact Dle.of_eq rfl | exact MLe.of_eq rfl | exact Dle.i (by omega) | exact Dle.i (by simp only [Int.toNat_natCast] at *; omega) | exact Dle.nil | exact Dle.rc Dle.nil | exact Option.some_ne_none _ | exact Or.inl rfl | exact Or.inr trivial | omega | (simp only [Int.toNat_natCast] at *; omega) | (intro _ _ _ _; exact Dle.of_eq rfl) | refine And.intro ?_ ?_)⟩⟩, fun k hk => ?_⟩
          obtain ⟨hk, hgk⟩ := hk
          by_cases hlt : k < fs.length
          · have hc := trng_sp E _ (fs.getD k .zero) (Nat.lt_succ_self _) (allN_iff.1 hfk k hlt)
            have hno : rngB (fs.getD k .zero) = false → r = 2 := fun h => hr.trans (if_pos (allN_no hlt h))
            have hyes : rngB (fs.getD k .zero) = true → farK fs (k + 1) = true := fun h => allN_succ hgk h
            generalize rngB (fs.getD k .zero) = b at hc hno hyes
            repeat' first
              | (refine facW_intro ?_; intro _)
              | refine Or.inl ?_
              | ((conv => whnf); first | (refine condW_dec ?_ ?_ <;> intro _ <;> try (exfalso; omega)) | refine condW_not ?_ | (refine condW_bool ?_ ?_ <;> intro _ <;> try (exfalso; omega)) | (refine nbC_t (fun _ => ?_) ?_) | (refine nbC_f ?_ (fun _ => ?_)))
              | refine And.intro (by first | omega | (simp only [Int.toNat_natCast] at *; omega) | (simp only [Nat.reduceAdd, Int.cast_ofNat_Int, true_and, and_true]; omega) | kernel_rfl) ?_
              | refine RegW.run ?_
              | refine ⟨_, hc, ?_⟩
              | fail
            all_goals first
              | exact ⟨k + 1, ⟨by omega, hyes (by assumption)⟩, ⟨[], ⟨by kernel_rfl, by kernel_rfl, by kernel_rfl, by kernel_rfl, by kernel_rfl, by kernel_rfl, by kernel_rfl⟩, (by repeat' first | exact trivial | exact rfl | kernel_rfl | exact Dle.of_eq rfl | exact MLe.of_eq rfl | exact Dle.i (by omega) | exact Dle.i (by simp only [Int.toNat_natCast] at *; omega) | exact Dle.nil | exact Dle.rc Dle.nil | exact Option.some_ne_none _ | exact Or.inl rfl | exact Or.inr trivial | omega | (simp only [Int.toNat_natCast] at *; omega) | (intro _ _ _ _; exact Dle.of_eq rfl) | refine And.intro ?_ ?_)⟩, by first | omega | (dsimp only; omega)⟩
              | exact Dle.i (hno (by assumption)).symm
              | trace_state
          · obtain rfl : k = fs.length := by omega
            rw [if_neg (by rw [hgk]; decide)] at hr
            subst hr
            repeat' first
              | (refine facW_intro ?_; intro _)
              | refine Or.inl ?_
              | ((conv => whnf); first | (refine condW_dec ?_ ?_ <;> intro _ <;> try (exfalso; omega)) | refine condW_not ?_ | (refine condW_bool ?_ ?_ <;> intro _ <;> try (exfalso; omega)) | (refine nbC_t (fun _ => ?_) ?_) | (refine nbC_f ?_ (fun _ => ?_)))
              | refine And.intro (by first | omega | (simp only [Int.toNat_natCast] at *; omega) | (simp only [Nat.reduceAdd, Int.cast_ofNat_Int, true_and, and_true]; omega) | kernel_rfl) ?_
              | refine RegW.run ?_
              | fail
            all_goals exact Dle.refl _ _
set_option maxHeartbeats 4000000 in
theorem refRule_sp (fs : List Ts) (hi : opIL fs) (hw : tcntL fs ≤ 100000000) : Sp (cx Tryd.prog mixed tyT_ok E) 23 [encR fs] (i64 (ruleE fs)) := by
  obtain ⟨r, hr⟩ : ∃ r, r = ruleE fs := ⟨_, rfl⟩
  rw [← hr]
  rw [ruleE_K] at hr
  by_cases h6 : 6 < fs.length
  · rw [if_pos h6] at hr
    subst hr
    refine Sp.body Tryd.func23 (by kernel_rfl) rfl (by kernel_rfl) (by kernel_rfl) (by kernel_rfl) ?_
    repeat' first
      | (refine facW_intro ?_; intro _)
      | refine Or.inl ?_
      | ((conv => whnf); first | (refine condW_dec ?_ ?_ <;> intro _ <;> try (exfalso; omega)) | refine condW_not ?_ | (refine condW_bool ?_ ?_ <;> intro _ <;> try (exfalso; omega)) | (refine nbC_t (fun _ => ?_) ?_) | (refine nbC_f ?_ (fun _ => ?_)))
      | refine And.intro (by first | omega | (simp only [Int.toNat_natCast] at *; omega) | (simp only [Nat.reduceAdd, Int.cast_ofNat_Int, true_and, and_true]; omega) | kernel_rfl) ?_
      | refine RegW.run ?_
      | fail
    all_goals exact Dle.refl _ _
  · rw [if_neg h6] at hr
    refine Sp.body Tryd.func23 (by kernel_rfl) rfl (by kernel_rfl) (by kernel_rfl) (by kernel_rfl) ?_
    repeat' first
      | (refine facW_intro ?_; intro _)
      | refine Or.inl ?_
      | ((conv => whnf); first | (refine condW_dec ?_ ?_ <;> intro _ <;> try (exfalso; omega)) | refine condW_not ?_ | (refine condW_bool ?_ ?_ <;> intro _ <;> try (exfalso; omega)) | (refine nbC_t (fun _ => ?_) ?_) | (refine nbC_f ?_ (fun _ => ?_)))
      | refine And.intro (by first | omega | (simp only [Int.toNat_natCast] at *; omega) | (simp only [Nat.reduceAdd, Int.cast_ofNat_Int, true_and, and_true]; omega) | kernel_rfl) ?_
      | refine RegW.run ?_
      | fail
    refine ⟨Nat, fun k => [(17, i64 k), (3, dB (deepK fs k)), (4, dB (formK fs k)), (5, dB (farK fs k))], fun k => [], [1], fun k => [], fun k => k ≤ fs.length ∧ manyK fs k = true, fun k => fs.length - k, ⟨0, ⟨by omega, rfl⟩, ⟨[], ⟨by kernel_rfl, by kernel_rfl, by kernel_rfl, by kernel_rfl, by kernel_rfl, by kernel_rfl, by kernel_rfl⟩, (by repeat' first | (exact Dle.bo (deep0 fs).symm) | exact trivial | exact rfl | kernel_rfl | exact Dle.of_eq rfl | exact MLe.of_eq rfl | exact Dle.i (by omega) | exact Dle.i (by simp only [Int.toNat_natCast] at *; omega) | exact Dle.nil | exact Dle.rc Dle.nil | exact Option.some_ne_none _ | exact Or.inl rfl | exact Or.inr trivial | omega | (simp only [Int.toNat_natCast] at *; omega) | (intro _ _ _ _; exact Dle.of_eq rfl) | refine And.intro ?_ ?_)⟩⟩, fun k hk => ?_⟩
    obtain ⟨hk, hall⟩ := hk
    by_cases hlt : k < fs.length
    · have hb := tcnt_getD hlt
      have hlc := tlvl_le_cnt (fs.getD k .zero)
      have hc := testsIn_sp E _ (fs.getD k .zero) (Nat.lt_succ_self _) (by omega)
      have hc2 := rform_sp E _ (fs.getD k .zero) (Nat.lt_succ_self _) (opIL_mem hi _ (getD_mem fs .zero k hlt))
      have hc3 := rrng_sp E _ (fs.getD k .zero) (Nat.lt_succ_self _)
      have hno : 20 < tcnt (fs.getD k .zero) → r = 4 := fun h => hr.trans (if_pos (allN_no hlt (by rw [decide_eq_true h]; rfl)))
      have hyes : ¬ 20 < tcnt (fs.getD k .zero) → manyK fs (k + 1) = true := fun h => allN_succ hall (by rw [decide_eq_false h]; rfl)
      have e1 : deepK fs (k + 1) = (deepK fs k || decide ((12 : Int) < tlvl (fs.getD k .zero))) := by
        unfold deepK
        rw [allN_snoc, Bool.not_and, Bool.not_not]
        congr 1
        rw [Bool.eq_iff_iff, decide_eq_true_eq, decide_eq_true_eq]
        omega
      have e2 : formK fs (k + 1) = (formK fs k && formB (fs.getD k .zero)) := allN_snoc _ _
      have e3 : farK fs (k + 1) = (farK fs k && rngB (fs.getD k .zero)) := allN_snoc _ _
      generalize tlvl (fs.getD k .zero) = m at hc e1 hlc
      generalize tcnt (fs.getD k .zero) = c at hc hno hyes hlc hb
      generalize formB (fs.getD k .zero) = b at hc2 e2
      generalize rngB (fs.getD k .zero) = g at hc3 e3
      repeat' first
        | (refine facW_intro ?_; intro _)
        | refine Or.inl ?_
        | ((conv => whnf); first | (refine condW_dec ?_ ?_ <;> intro _ <;> try (exfalso; omega)) | refine condW_not ?_ | (refine condW_bool ?_ ?_ <;> intro _ <;> try (exfalso; omega)) | (refine nbC_t (fun _ => ?_) ?_) | (refine nbC_f ?_ (fun _ => ?_)))
        | refine And.intro (by first | omega | (simp only [Int.toNat_natCast] at *; omega) | (simp only [Nat.reduceAdd, Int.cast_ofNat_Int, true_and, and_true]; omega) | kernel_rfl) ?_
        | refine RegW.run ?_
        | refine ⟨_, hc, ?_⟩
        | refine ⟨_, hc2, ?_⟩
        | refine ⟨_, hc3, ?_⟩
        | fail
      all_goals first
        | exact Dle.i (hno (by omega)).symm
        | exact ⟨k + 1, ⟨by omega, hyes (by omega)⟩, ⟨[], ⟨by kernel_rfl, by kernel_rfl, by kernel_rfl, by kernel_rfl, by kernel_rfl, by kernel_rfl, by kernel_rfl⟩, (by repeat' first | ((refine Dle.bo ?_; first | (rw [e1]; simp [*]; done) | (rw [e2]; simp [*]; done) | (rw [e3]; simp [*]; done))) | exact trivial | exact rfl | kernel_rfl | exact Dle.of_eq rfl | exact MLe.of_eq rfl | exact Dle.i (by omega) | exact Dle.i (by simp only [Int.toNat_natCast] at *; omega) | exact Dle.nil | exact Dle.rc Dle.nil | exact Option.some_ne_none _ | exact Or.inl rfl | exact Or.inr trivial | omega | (simp only [Int.toNat_natCast] at *; omega) | (intro _ _ _ _; exact Dle.of_eq rfl) | refine And.intro ?_ ?_)⟩, by first | omega | (dsimp only; omega)⟩
        | trace_state
    · obtain rfl : k = fs.length := by omega
      rw [if_neg (by rw [hall]; decide)] at hr
      repeat' first
        | (refine facW_intro ?_; intro _)
        | refine Or.inl ?_
        | ((conv => whnf); first | (refine condW_dec ?_ ?_ <;> intro _ <;> try (exfalso; omega)) | refine condW_not ?_ | (refine condW_bool ?_ ?_ <;> intro _ <;> try (exfalso; omega)) | (refine nbC_t (fun _ => ?_) ?_) | (refine nbC_f ?_ (fun _ => ?_)))
        | refine And.intro (by first | omega | (simp only [Int.toNat_natCast] at *; omega) | (simp only [Nat.reduceAdd, Int.cast_ofNat_Int, true_and, and_true]; omega) | kernel_rfl) ?_
        | refine RegW.run ?_
        | fail
      all_goals first
        | exact Dle.i (by rw [hr, if_pos (by assumption)])
        | exact Dle.i (by rw [hr, if_neg (by simp [*]), if_pos (by assumption)])
        | exact Dle.i (by rw [hr, if_neg (by simp [*]), if_neg (by simp [*]), if_pos (by assumption)])
        | exact Dle.i (by rw [hr, if_neg (by simp [*]), if_neg (by simp [*]), if_neg (by simp [*])])
        | trace_state
set_option maxHeartbeats 4000000 in
theorem kidsText_sp (t : Ts) (sep : ByteArray) (hs : sep.size = 3) (hok : okT t) (ih : ∀ x ∈ t.kids, Sp (cx Tryd.prog mixed tyT_ok E) 22 [encT x] (dS (txt x))) : Sp (cx Tryd.prog mixed tyT_ok E) 47 [dS sep, refT t] (dS (joinS (t.kids.map (txtK t.op)) sep)) := by
  have hj0 := join_kids (t := t) hs hok.1 hok.2.1
  have hcn := hok.2.2
  rw [tcnt_eq] at hcn
  have hkl : t.kids.length ≤ tcntL t.kids := by
    have : ∀ l : List Ts, l.length ≤ tcntL l := fun l => by
      induction l with
      | nil => simp
      | cons a l ih => have := tcnt_eq a; simp only [List.length_cons, tcntL]; omega
    exact this _
  have hj := join_sp E (t.kids.map (txtK t.op)) sep (by rw [List.length_map]; omega) (by omega)
  rw [← txs_all] at hj ⊢
  have hz : (txs t.op t.kids 0).length = 0 := rfl
  refine Sp.body Tryd.func47 (by kernel_rfl) rfl (by kernel_rfl) (by kernel_rfl) (by kernel_rfl) ?_
  repeat' first
    | (refine facW_intro ?_; intro _)
    | refine Or.inl ?_
    | ((conv => whnf); first | (refine condW_dec ?_ ?_ <;> intro _ <;> try (exfalso; omega)) | refine condW_not ?_ | (refine condW_bool ?_ ?_ <;> intro _ <;> try (exfalso; omega)) | (refine nbC_t (fun _ => ?_) ?_) | (refine nbC_f ?_ (fun _ => ?_)))
    | refine And.intro (by first | omega | (simp only [Int.toNat_natCast] at *; omega) | (simp only [Nat.reduceAdd, Int.cast_ofNat_Int, true_and, and_true]; omega) | kernel_rfl) ?_
    | refine RegW.run ?_
    | fail
  refine ⟨Nat, fun k => [(11, i64 k), (4, .own 11 1 0 (txs t.op t.kids k).length)], fun k => [], [], fun k => [(11, 9, (txs t.op t.kids k).length, rowS (txs t.op t.kids k))], fun k => k ≤ t.kids.length, fun k => t.kids.length - k, ⟨0, by omega, ⟨[(11, none)], ⟨by kernel_rfl, by kernel_rfl, by kernel_rfl, by kernel_rfl, by kernel_rfl, by kernel_rfl, by kernel_rfl⟩, (by repeat' first | exact trivial | exact rfl | kernel_rfl | exact Dle.of_eq rfl | exact MLe.of_eq rfl | exact Dle.i (by omega) | exact Dle.i (by simp only [Int.toNat_natCast] at *; omega) | exact Dle.nil | exact Dle.rc Dle.nil | exact Option.some_ne_none _ | exact Or.inl rfl | exact Or.inr trivial | omega | (simp only [Int.toNat_natCast] at *; omega) | (intro _ _ _ _; exact Dle.of_eq rfl) | refine And.intro ?_ ?_)⟩⟩, fun k hk => ?_⟩
  have hk : k ≤ t.kids.length := hk
  by_cases hlt : k < t.kids.length
  · have hm := getD_mem t.kids .zero k hlt
    have hc := ih _ hm
    have hok2 := okT_kid hok hm
    have hsz := txt_size _ (t.kids.getD k .zero) (Nat.lt_succ_self _) hok2.1 hok2.2.1
    have hcn2 := hok2.2.2
    have hln := txs_len t.op t.kids k hk
    have c1 : (⟨#[40]⟩ : ByteArray).size = 1 := rfl
    have c2 : (⟨#[41]⟩ : ByteArray).size = 1 := rfl
    have c3 : (⟨#[40]⟩ ++ txt (t.kids.getD k .zero)).size = 1 + (txt (t.kids.getD k .zero)).size := by rw [ByteArray.size_append]; rfl
    have e1 := txs_next (o := t.op) hlt
    have e3 := (congrArg List.length e1).symm
    have e4 : txtK t.op (t.kids.getD k .zero) = par (decide ((t.kids.getD k .zero).op = 3) && !decide (t.op = 3)) (txt (t.kids.getD k .zero)) := rfl
    by_cases hp : (t.kids.getD k .zero).op = 3 ∧ ¬ t.op = 3
    · rw [decide_eq_true hp.1, decide_eq_false hp.2] at e4
      rw [show (true && !false) = true from rfl, par_yes] at e4
      rw [e4] at e1 e3
      have hp1 : (t.kids.getD ((k : Int)).toNat .zero).op = 3 := hp.1
      have hp2 := hp.2
      generalize txt (t.kids.getD k .zero) = s at hc hsz c3 e1 e3
      repeat' first
        | (refine facW_intro ?_; intro _)
        | refine Or.inl ?_
        | ((conv => whnf); first | (refine condW_dec ?_ ?_ <;> intro _ <;> try (exfalso; omega)) | refine condW_not ?_ | (refine condW_bool ?_ ?_ <;> intro _ <;> try (exfalso; omega)) | (refine nbC_t (fun _ => ?_) ?_) | (refine nbC_f ?_ (fun _ => ?_)))
        | refine And.intro (by first | omega | (simp only [Int.toNat_natCast] at *; omega) | (simp only [Nat.reduceAdd, Int.cast_ofNat_Int, true_and, and_true]; omega) | kernel_rfl) ?_
        | refine RegW.run ?_
        | refine ⟨_, hc, ?_⟩
        | fail
      all_goals first
        | (exfalso; rename_i h; exact h hp1)
        | (exfalso; rename_i h; exact h hp2)
        | exact ⟨k + 1, by omega, ⟨[(11, some 31)], ⟨by kernel_rfl, by kernel_rfl, by kernel_rfl, by kernel_rfl, by kernel_rfl, by kernel_rfl, by kernel_rfl⟩, (by repeat' first | ((first | exact e3 | (rw [List.length_append] at e3; exact e3))) | exact trivial | exact rfl | kernel_rfl | exact Dle.of_eq rfl | exact MLe.of_eq rfl | exact Dle.i (by omega) | exact Dle.i (by simp only [Int.toNat_natCast] at *; omega) | exact Dle.nil | exact Dle.rc Dle.nil | exact Option.some_ne_none _ | exact Or.inl rfl | exact Or.inr trivial | omega | (simp only [Int.toNat_natCast] at *; omega) | (intro _ _ _ _; exact Dle.of_eq rfl) | (intro i j hi hj; (rw [e1]; exact row_strA E _ _ i j hi hj)) | refine And.intro ?_ ?_)⟩, by first | omega | (dsimp only; omega)⟩
        | trace_state
    · rw [show (decide ((t.kids.getD k .zero).op = 3) && !decide (t.op = 3)) = false by rw [Bool.eq_false_iff]; intro h; simp at h; exact hp h, par_no] at e4
      rw [e4] at e1 e3
      have hp1 : ¬ ((t.kids.getD ((k : Int)).toNat .zero).op = 3 ∧ ¬ t.op = 3) := hp
      generalize txt (t.kids.getD k .zero) = s at hc hsz c3 e1 e3
      repeat' first
        | (refine facW_intro ?_; intro _)
        | refine Or.inl ?_
        | ((conv => whnf); first | (refine condW_dec ?_ ?_ <;> intro _ <;> try (exfalso; omega)) | refine condW_not ?_ | (refine condW_bool ?_ ?_ <;> intro _ <;> try (exfalso; omega)) | (refine nbC_t (fun _ => ?_) ?_) | (refine nbC_f ?_ (fun _ => ?_)))
        | refine And.intro (by first | omega | (simp only [Int.toNat_natCast] at *; omega) | (simp only [Nat.reduceAdd, Int.cast_ofNat_Int, true_and, and_true]; omega) | kernel_rfl) ?_
        | refine RegW.run ?_
        | refine ⟨_, hc, ?_⟩
        | fail
      all_goals first
        | exact ⟨k + 1, by omega, ⟨[(11, some 31)], ⟨by kernel_rfl, by kernel_rfl, by kernel_rfl, by kernel_rfl, by kernel_rfl, by kernel_rfl, by kernel_rfl⟩, (by repeat' first | ((first | exact e3 | (rw [List.length_append] at e3; exact e3))) | exact trivial | exact rfl | kernel_rfl | exact Dle.of_eq rfl | exact MLe.of_eq rfl | exact Dle.i (by omega) | exact Dle.i (by simp only [Int.toNat_natCast] at *; omega) | exact Dle.nil | exact Dle.rc Dle.nil | exact Option.some_ne_none _ | exact Or.inl rfl | exact Or.inr trivial | omega | (simp only [Int.toNat_natCast] at *; omega) | (intro _ _ _ _; exact Dle.of_eq rfl) | (intro i j hi hj; (rw [e1]; exact row_strA E _ _ i j hi hj)) | refine And.intro ?_ ?_)⟩, by first | omega | (dsimp only; omega)⟩
        | (exfalso; exact hp1 ⟨by assumption, by assumption⟩)
        | trace_state
  · obtain rfl : k = t.kids.length := by omega
    repeat' first
      | (refine facW_intro ?_; intro _)
      | refine Or.inl ?_
      | ((conv => whnf); first | (refine condW_dec ?_ ?_ <;> intro _ <;> try (exfalso; omega)) | refine condW_not ?_ | (refine condW_bool ?_ ?_ <;> intro _ <;> try (exfalso; omega)) | (refine nbC_t (fun _ => ?_) ?_) | (refine nbC_f ?_ (fun _ => ?_)))
      | refine And.intro (by first | omega | (simp only [Int.toNat_natCast] at *; omega) | (simp only [Nat.reduceAdd, Int.cast_ofNat_Int, true_and, and_true]; omega) | kernel_rfl) ?_
      | refine RegW.run ?_
      | refine ⟨_, hj, ?_⟩
      | fail
    all_goals first
      | exact Dle.refl _ _
      | trace_state
end
end rule
end Go.Proofs.YtagggnjcpjodjaaDoor
