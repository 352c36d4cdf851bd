/-
  Tests of languages: what is wrong with a rule, both sides.
-/
import Derived.Test.YtagggnjcpjodjaaDoorZ1
import Derived.Test.YtagggnjcpjodjaaDoorX0
namespace Go.Proofs.YtagggnjcpjodjaaDoor
open Go.RowKit
set_option linter.unusedVariables false
set_option linter.unusedSimpArgs false
namespace rule
/-- The first place from k on at which p holds; -1: none. -/
def idxG {α : Type} (p : α → Bool) (d : α) (l : List α) (k : Nat) : Int := if k < l.length then (if p (l.getD k d) = true then (k : Int) else idxG p d l (k + 1)) else -1
  termination_by l.length - k
theorem idxG_end {α : Type} {p : α → Bool} {d : α} {l : List α} {k : Nat} (h : ¬ k < l.length) : idxG p d l k = -1 := by rw [idxG, if_neg h]
theorem idxG_at {α : Type} {p : α → Bool} {d : α} {l : List α} {k : Nat} (h : k < l.length) (h2 : p (l.getD k d) = true) : idxG p d l k = k := by rw [idxG, if_pos h, if_pos h2]
theorem idxG_next {α : Type} {p : α → Bool} {d : α} {l : List α} {k : Nat} (h : k < l.length) (h2 : p (l.getD k d) = false) : idxG p d l k = idxG p d l (k + 1) := by rw [idxG, if_pos h, if_neg (by rw [h2]; decide)]
theorem idxG_spec {α : Type} (p : α → Bool) (d : α) (l : List α) : ∀ (n k : Nat), l.length - k < n → (idxG p d l k = -1 ∧ (l.drop k).any p = false) ∨ ∃ m, idxG p d l k = (m : Nat) ∧ m < l.length ∧ (l.drop k).any p = true
  | 0, k, h => by omega
  | n + 1, k, h => by
    rcases Nat.lt_or_ge k l.length with hk | hk
    · have e : l.drop k = l.getD k d :: l.drop (k + 1) := by rw [List.drop_eq_getElem_cons hk]; simp [List.getD, hk]
      rw [e, List.any_cons]
      cases hp : p (l.getD k d)
      · rw [idxG_next hk hp, Bool.false_or]
        exact idxG_spec p d l n (k + 1) (by omega)
      · exact .inr ⟨k, idxG_at hk hp, hk, rfl⟩
    · exact .inl ⟨idxG_end (by omega), by rw [List.drop_of_length_le hk]; rfl⟩
theorem idxG_any {α : Type} (p : α → Bool) (d : α) (l : List α) : decide (0 ≤ idxG p d l 0) = l.any p := by
  rcases idxG_spec p d l (l.length + 1) 0 (by omega) with ⟨h1, h2⟩ | ⟨m, h1, _, h2⟩ <;> rw [List.drop_zero] at h2 <;> rw [h1, h2]
  · rfl
  · exact decide_eq_true (by omega)
def inB (o : Int) : Bool := decide (o = 2 ∨ o = 3 ∨ o = 4)
def lst (o : Int) : Int := if o = 4 then 1 else if o = 2 ∨ o = 3 then 2 else 0
theorem look3 (o : Int) : Look (mset (mset (mset ([] : List (Value × DD)) (.int .i64 2) (i64 2)) (.int .i64 3) (i64 2)) (.int .i64 4) (i64 1)) (.int .i64 o) (i64 0) (inB o, i64 (lst o)) := by
  have ne : ∀ a b : Int, a ≠ b → (Value.int .i64 a : Value) ≠ .int .i64 b := fun a b h e => h (by injection e)
  by_cases h4 : o = 4
  · subst h4
    exact .inl ⟨_, mpx.mset_new _ _ _, rfl, rfl⟩
  · by_cases h3 : o = 3
    · subst h3
      exact .inl ⟨_, mpx.mset_old (mpx.mset_new _ _ _) (ne _ _ (by decide)), rfl, rfl⟩
    · by_cases h2 : o = 2
      · subst h2
        exact .inl ⟨_, mpx.mset_old (mpx.mset_old (mpx.mset_new _ _ _) (ne _ _ (by decide))) (ne _ _ (by decide)), rfl, rfl⟩
      · refine .inr ⟨fun p hp => ?_, ?_⟩
        · rcases mpx.mset_mem hp with rfl | ⟨hp, _⟩
          · exact ne _ _ (fun e => h4 e.symm)
          · rcases mpx.mset_mem hp with rfl | ⟨hp, _⟩
            · exact ne _ _ (fun e => h3 e.symm)
            · rcases mpx.mset_mem hp with rfl | ⟨hp, _⟩
              · exact ne _ _ (fun e => h2 e.symm)
              · cases hp
        · unfold inB lst
          rw [decide_eq_false (by omega), if_neg h4, if_neg (by omega)]
theorem least_in {o : Int} {n : Nat} : leastB o n = (inB o && decide (lst o ≤ n)) := by
  unfold leastB inB lst
  by_cases h4 : o = 4
  · subst h4; simp; omega
  · by_cases h : o = 2 ∨ o = 3
    · rw [if_neg h4, if_pos h, decide_eq_true h, decide_eq_true (p := o = 2 ∨ o = 3 ∨ o = 4) (by omega), decide_eq_false h4, Bool.eq_iff_iff]
      simp
      omega
    · rw [decide_eq_false h, decide_eq_false h4, decide_eq_false (p := o = 2 ∨ o = 3 ∨ o = 4) (by omega)]
      simp
theorem form1 {t : Ts} (h : t.op = 1) : formB t = decide (t.kids.length = 0) := by rw [form_eq, if_pos h]
theorem form_no1 {t : Ts} (h : ¬ t.op = 1) (h2 : leastB t.op t.kids.length = false) : formB t = false := by rw [form_eq, if_neg h, h2]; rfl
theorem form_no2 {t : Ts} (h : ¬ t.op = 1) (h2 : ¬ (t.md = 0 ∧ t.lo = 0 ∧ t.hi = 0)) : formB t = false := by rw [form_eq, if_neg h, decide_eq_false h2]; simp
theorem form_no3 {t : Ts} {k : Nat} (h : ¬ t.op = 1) (hk : k < t.kids.length) (h2 : kidOk t.op (t.kids.getD k .zero) = false) : formB t = false := by rw [form_eq, if_neg h, all_no hk h2]; simp
theorem form_end {t : Ts} (h : ¬ t.op = 1) (h1 : leastB t.op t.kids.length = true) (h2 : allN t.kids.length (fun i => kidOk t.op (t.kids.getD i .zero)) = true) : formB t = decide (t.md = 0 ∧ t.lo = 0 ∧ t.hi = 0) := by
  rw [form_eq, if_neg h, h1, all_end h2 (Nat.le_refl _)]
  simp
theorem rng1 {t : Ts} (h : t.op = 1) : rngB t = wOk t.md t.lo t.hi := by rw [rng_eq, if_pos h]
theorem rng_no {t : Ts} {k : Nat} (hf : formB t = true) (hk : k < t.kids.length) (h2 : rngB (t.kids.getD k .zero) = false) : rngB t = false := by
  have h1 : ¬ t.op = 1 := fun h => by
    rw [form1 h] at hf
    have := of_decide_eq_true hf
    omega
  rw [rng_eq, if_neg h1, all_no hk h2]
theorem rng_end {t : Ts} (h : ¬ t.op = 1) (h2 : allN t.kids.length (fun i => rngB (t.kids.getD i .zero)) = true) : rngB t = true := by
  rw [rng_eq, if_neg h, all_end h2 (Nat.le_refl _)]
def encR (fs : List Ts) : DD := .agg [.rc (.tests fs)]
section
variable (E : Env)
set_option maxRecDepth 100000
set_option maxHeartbeats 2000000 in
theorem tform_sp : ∀ (N : Nat) (t : Ts), SizeOf.sizeOf t < N → Sp (cx Tryd.prog mixed tyT_ok E) 45 [encT t] (dB (formB t))
  | 0, t, h => by omega
  | N + 1, t, h => by
    have ih := fun x (hx : x ∈ t.kids) => tform_sp N x (by have := tkids_lt t x hx; omega)
    refine Sp.body Tryd.func45 (by kernel_rfl) rfl (by kernel_rfl) (by kernel_rfl) (by kernel_rfl) ?_
    repeat' first
      | (refine facW_intro ?_; intro _)
      | refine Or.inl ?_
      | ((conv => whnf); first | (refine condW_dec ?_ ?_ <;> intro _ <;> try (exfalso; omega)) | refine condW_not ?_ | (refine condW_bool ?_ ?_ <;> intro _ <;> try (exfalso; omega)) | (refine nbC_t (fun _ => ?_) ?_) | (refine nbC_f ?_ (fun _ => ?_)))
      | refine And.intro (by first | omega | (simp only [Int.toNat_natCast] at *; omega) | (simp only [Nat.reduceAdd, Int.cast_ofNat_Int, true_and, and_true]; omega) | kernel_rfl) ?_
      | refine RegW.run ?_
      | fail
    all_goals first
      | exact Dle.bo (by rw [form1 (by assumption), Bool.eq_iff_iff, decide_eq_true_eq, decide_eq_true_eq]; omega)
      | exact Dle.bo (by rw [form_no1 (by assumption) (by rw [Bool.eq_false_iff]; intro h; have := least_iff.1 h; omega)])
      | skip
    all_goals
      refine ⟨Nat, fun k => [(27, i64 k)], fun k => [], [1], fun k => [], fun k => k ≤ t.kids.length ∧ allN k (fun i => kidOk t.op (t.kids.getD i .zero)) = true, fun k => t.kids.length - k, ⟨0, ⟨by omega, rfl⟩, ⟨[], ⟨by kernel_rfl, by kernel_rfl, by kernel_rfl, by kernel_rfl, by kernel_rfl, by kernel_rfl, by kernel_rfl⟩, (by repeat' first | exact trivial | exact rfl | kernel_rfl | exact Dle.of_eq rfl | exact MLe.of_eq rfl | exact Dle.i (by omega) | exact Dle.i (by simp only [Int.toNat_natCast] at *; omega) | exact Dle.nil | exact Dle.rc Dle.nil | exact Option.some_ne_none _ | exact Or.inl rfl | exact Or.inr trivial | omega | (simp only [Int.toNat_natCast] at *; omega) | (intro _ _ _ _; exact Dle.of_eq rfl) | refine And.intro ?_ ?_)⟩⟩, fun k hk => ?_⟩
      obtain ⟨hk, hall⟩ := hk
      by_cases hlt : k < t.kids.length
      · have hc := ih _ (getD_mem t.kids .zero k hlt)
        have hko : kidOk t.op (t.kids.getD k .zero) = (formB (t.kids.getD k .zero) && (decide (t.op = 4) || !decide ((t.kids.getD k .zero).op = t.op))) := rfl
        generalize formB (t.kids.getD k .zero) = b at hc hko
        repeat' first
          | (refine facW_intro ?_; intro _)
          | refine Or.inl ?_
          | ((conv => whnf); first | (refine condW_dec ?_ ?_ <;> intro _ <;> try (exfalso; omega)) | refine condW_not ?_ | (refine condW_bool ?_ ?_ <;> intro _ <;> try (exfalso; omega)) | (refine nbC_t (fun _ => ?_) ?_) | (refine nbC_f ?_ (fun _ => ?_)))
          | refine And.intro (by first | omega | (simp only [Int.toNat_natCast] at *; omega) | (simp only [Nat.reduceAdd, Int.cast_ofNat_Int, true_and, and_true]; omega) | kernel_rfl) ?_
          | refine RegW.run ?_
          | refine ⟨_, hc, ?_⟩
          | fail
        all_goals simp only [Int.toNat_natCast] at *
        all_goals first
          | exact ⟨k + 1, ⟨by omega, allN_succ hall (by rw [hko]; grind)⟩, ⟨[], ⟨by kernel_rfl, by kernel_rfl, by kernel_rfl, by kernel_rfl, by kernel_rfl, by kernel_rfl, by kernel_rfl⟩, (by repeat' first | exact trivial | exact rfl | kernel_rfl | exact Dle.of_eq rfl | exact MLe.of_eq rfl | exact Dle.i (by omega) | exact Dle.i (by simp only [Int.toNat_natCast] at *; omega) | exact Dle.nil | exact Dle.rc Dle.nil | exact Option.some_ne_none _ | exact Or.inl rfl | exact Or.inr trivial | omega | (simp only [Int.toNat_natCast] at *; omega) | (intro _ _ _ _; exact Dle.of_eq rfl) | refine And.intro ?_ ?_)⟩, by first | omega | (dsimp only; omega)⟩
          | exact Dle.bo (by rw [form_no3 (k := k) (by assumption) hlt (by rw [hko]; grind)])
          | trace_state
      · obtain rfl : k = t.kids.length := by omega
        have he := form_end (t := t) (by assumption) (least_iff.2 (by omega)) hall
        repeat' first
          | (refine facW_intro ?_; intro _)
          | refine Or.inl ?_
          | ((conv => whnf); first | (refine condW_dec ?_ ?_ <;> intro _ <;> try (exfalso; omega)) | refine condW_not ?_ | (refine condW_bool ?_ ?_ <;> intro _ <;> try (exfalso; omega)) | (refine nbC_t (fun _ => ?_) ?_) | (refine nbC_f ?_ (fun _ => ?_)))
          | refine And.intro (by first | omega | (simp only [Int.toNat_natCast] at *; omega) | (simp only [Nat.reduceAdd, Int.cast_ofNat_Int, true_and, and_true]; omega) | kernel_rfl) ?_
          | refine RegW.run ?_
          | fail
        all_goals first
          | exact Dle.bo (by rw [he]; grind)
          | trace_state
set_option maxHeartbeats 2000000 in
theorem trng_sp : ∀ (N : Nat) (t : Ts), SizeOf.sizeOf t < N → formB t = true → Sp (cx Tryd.prog mixed tyT_ok E) 46 [encT t] (dB (rngB t))
  | 0, t, h, _ => by omega
  | N + 1, t, h, hf => by
    have ih := fun x (hx : x ∈ t.kids) => trng_sp N x (by have := tkids_lt t x hx; omega) (form_kid hf hx)
    refine Sp.body Tryd.func46 (by kernel_rfl) rfl (by kernel_rfl) (by kernel_rfl) (by kernel_rfl) ?_
    repeat' first
      | (refine facW_intro ?_; intro _)
      | refine Or.inl ?_
      | ((conv => whnf); first | (refine condW_dec ?_ ?_ <;> intro _ <;> try (exfalso; omega)) | refine condW_not ?_ | (refine condW_bool ?_ ?_ <;> intro _ <;> try (exfalso; omega)) | (refine nbC_t (fun _ => ?_) ?_) | (refine nbC_f ?_ (fun _ => ?_)))
      | refine And.intro (by first | omega | (simp only [Int.toNat_natCast] at *; omega) | (simp only [Nat.reduceAdd, Int.cast_ofNat_Int, true_and, and_true]; omega) | kernel_rfl) ?_
      | refine RegW.run ?_
      | fail
    refine ⟨Nat, fun k => [(8, i64 k)], fun k => [], [1], fun k => [], fun k => k ≤ t.kids.length ∧ allN k (fun i => rngB (t.kids.getD i .zero)) = true, fun k => t.kids.length - k, ⟨0, ⟨by omega, rfl⟩, ⟨[], ⟨by kernel_rfl, by kernel_rfl, by kernel_rfl, by kernel_rfl, by kernel_rfl, by kernel_rfl, by kernel_rfl⟩, (by repeat' first | exact trivial | exact rfl | kernel_rfl | exact Dle.of_eq rfl | exact MLe.of_eq rfl | exact Dle.i (by omega) | exact Dle.i (by simp only [Int.toNat_natCast] at *; omega) | exact Dle.nil | exact Dle.rc Dle.nil | exact Option.some_ne_none _ | exact Or.inl rfl | exact Or.inr trivial | omega | (simp only [Int.toNat_natCast] at *; omega) | (intro _ _ _ _; exact Dle.of_eq rfl) | refine And.intro ?_ ?_)⟩⟩, fun k hk => ?_⟩
    obtain ⟨hk, hall⟩ := hk
    by_cases hlt : k < t.kids.length
    · have hc := ih _ (getD_mem t.kids .zero k hlt)
      have hno := rng_no (k := k) hf hlt
      have hyes := allN_succ hall
      generalize rngB (t.kids.getD k .zero) = b at hc hno hyes
      repeat' first
        | (refine facW_intro ?_; intro _)
        | refine Or.inl ?_
        | ((conv => whnf); first | (refine condW_dec ?_ ?_ <;> intro _ <;> try (exfalso; omega)) | refine condW_not ?_ | (refine condW_bool ?_ ?_ <;> intro _ <;> try (exfalso; omega)) | (refine nbC_t (fun _ => ?_) ?_) | (refine nbC_f ?_ (fun _ => ?_)))
        | refine And.intro (by first | omega | (simp only [Int.toNat_natCast] at *; omega) | (simp only [Nat.reduceAdd, Int.cast_ofNat_Int, true_and, and_true]; omega) | kernel_rfl) ?_
        | refine RegW.run ?_
        | refine ⟨_, hc, ?_⟩
        | fail
      all_goals first
        | exact ⟨k + 1, ⟨by omega, hyes (by assumption)⟩, ⟨[], ⟨by kernel_rfl, by kernel_rfl, by kernel_rfl, by kernel_rfl, by kernel_rfl, by kernel_rfl, by kernel_rfl⟩, (by repeat' first | exact trivial | exact rfl | kernel_rfl | exact Dle.of_eq rfl | exact MLe.of_eq rfl | exact Dle.i (by omega) | exact Dle.i (by simp only [Int.toNat_natCast] at *; omega) | exact Dle.nil | exact Dle.rc Dle.nil | exact Option.some_ne_none _ | exact Or.inl rfl | exact Or.inr trivial | omega | (simp only [Int.toNat_natCast] at *; omega) | (intro _ _ _ _; exact Dle.of_eq rfl) | refine And.intro ?_ ?_)⟩, by first | omega | (dsimp only; omega)⟩
        | exact Dle.bo (by rw [hno (by assumption)])
        | trace_state
    · obtain rfl : k = t.kids.length := by omega
      repeat' first
        | (refine facW_intro ?_; intro _)
        | refine Or.inl ?_
        | ((conv => whnf); first | (refine condW_dec ?_ ?_ <;> intro _ <;> try (exfalso; omega)) | refine condW_not ?_ | (refine condW_bool ?_ ?_ <;> intro _ <;> try (exfalso; omega)) | (refine nbC_t (fun _ => ?_) ?_) | (refine nbC_f ?_ (fun _ => ?_)))
        | refine And.intro (by first | omega | (simp only [Int.toNat_natCast] at *; omega) | (simp only [Nat.reduceAdd, Int.cast_ofNat_Int, true_and, and_true]; omega) | kernel_rfl) ?_
        | refine RegW.run ?_
        | fail
      all_goals first
        | exact Dle.bo (by rw [rng_end (by assumption) hall])
        | exact Dle.bo (by rw [rng1 (by assumption)]; unfold wOk; grind)
        | trace_state
theorem testsIn_sp : ∀ (N : Nat) (c : Ts), SizeOf.sizeOf c < N → tcnt c ≤ 4611686018427387904 → Sp (cx Tryd.prog mixed tyT_ok E) 48 [encT c] (.tup [i64 (tcnt c), i64 (tlvl c)])
  | 0, c, h, _ => by omega
  | N + 1, c, h, hb => by
    have ih := fun x (hx : x ∈ c.kids) => testsIn_sp N x (by have := tkids_lt c x hx; omega) (by have := tcnt_mem c.kids x hx; rw [tcnt_eq] at hb; omega)
    have hlc := tlvlL_le_cnt c.kids
    rw [tcnt_eq] at hb
    rw [tcnt_eq, tlvl_eq]
    refine Sp.body Tryd.func48 (by kernel_rfl) rfl (by kernel_rfl) (by kernel_rfl) (by kernel_rfl) ?_
    repeat' first
      | (refine facW_intro ?_; intro _)
      | refine Or.inl ?_
      | ((conv => whnf); first | (refine condW_dec ?_ ?_ <;> intro _) | refine condW_not ?_ | (refine condW_bool ?_ ?_ <;> intro _) | (refine nbC_t (fun _ => ?_) ?_) | (refine nbC_f ?_ (fun _ => ?_)))
      | refine And.intro (by first | omega | (simp only [Int.toNat_natCast] at *; omega) | (simp only [Nat.reduceAdd, Int.cast_ofNat_Int, true_and, and_true]; omega) | kernel_rfl) ?_
      | refine RegW.run ?_
      | fail
    refine ⟨Nat, fun k => [(11, i64 k), (2, i64 (tcntL (c.kids.take k) + 1 : Nat)), (3, i64 (tlvlL (c.kids.take k)))], fun k => [], [], fun k => [], fun k => k ≤ c.kids.length, fun k => c.kids.length - k, ⟨0, by omega, ⟨[], ⟨by kernel_rfl, by kernel_rfl, by kernel_rfl, by kernel_rfl, by kernel_rfl, by kernel_rfl, by kernel_rfl⟩, (by repeat' first | exact trivial | exact rfl | kernel_rfl | exact Dle.of_eq rfl | exact MLe.of_eq rfl | exact Dle.i (by omega) | exact Dle.i (by simp only [Int.toNat_natCast] at *; omega) | exact Dle.nil | exact Dle.rc Dle.nil | exact Option.some_ne_none _ | exact Or.inl rfl | exact Or.inr trivial | omega | (simp only [Int.toNat_natCast] at *; omega) | (intro _ _ _ _; exact Dle.of_eq rfl) | refine And.intro ?_ ?_)⟩⟩, fun k hk => ?_⟩
    have hk : k ≤ c.kids.length := hk
    by_cases hlt : k < c.kids.length
    · have h1 := tcntL_take c.kids k
      have h2 := tcntL_take c.kids (k + 1)
      rw [take_snoc c.kids .zero k hlt, tcntL_app] at h2
      repeat' first
        | (refine facW_intro ?_; intro _)
        | refine Or.inl ?_
        | ((conv => whnf); first | (refine condW_dec ?_ ?_ <;> intro _ <;> try (exfalso; omega)) | refine condW_not ?_ | (refine condW_bool ?_ ?_ <;> intro _ <;> try (exfalso; omega)) | (refine nbC_t (fun _ => ?_) ?_) | (refine nbC_f ?_ (fun _ => ?_)))
        | refine And.intro (by first | omega | (simp only [Int.toNat_natCast] at *; omega) | (simp only [Nat.reduceAdd, Int.cast_ofNat_Int, true_and, and_true]; omega) | kernel_rfl) ?_
        | refine RegW.run ?_
        | refine ⟨_, ih _ (getD_mem c.kids .zero k hlt), ?_⟩
        | fail
      have e1 : tcntL (c.kids.take (k + 1)) = tcntL (c.kids.take k) + tcnt (c.kids.getD k .zero) := by rw [take_snoc c.kids .zero k hlt, tcntL_app]
      have e2 : tlvlL (c.kids.take (k + 1)) = max (tlvlL (c.kids.take k)) (tlvl (c.kids.getD k .zero)) := by rw [take_snoc c.kids .zero k hlt, tlvlL_app]
      exact ⟨k + 1, hlt, ⟨[], ⟨by kernel_rfl, by kernel_rfl, by kernel_rfl, by kernel_rfl, by kernel_rfl, by kernel_rfl, by kernel_rfl⟩, (by repeat' first | exact trivial | exact rfl | kernel_rfl | exact Dle.of_eq rfl | exact MLe.of_eq rfl | exact Dle.i (by omega) | exact Dle.i (by simp only [Int.toNat_natCast] at *; omega) | exact Dle.nil | exact Dle.rc Dle.nil | exact Option.some_ne_none _ | exact Or.inl rfl | exact Or.inr trivial | omega | (simp only [Int.toNat_natCast] at *; omega) | (intro _ _ _ _; exact Dle.of_eq rfl) | refine And.intro ?_ ?_)⟩, by first | omega | (dsimp only; omega)⟩
    · have : k = c.kids.length := by omega
      subst this
      have e : c.kids.take c.kids.length = c.kids := List.take_length
      rw [← e] at hb hlc
      repeat' first
        | (refine facW_intro ?_; intro _)
        | refine Or.inl ?_
        | ((conv => whnf); first | (refine condW_dec ?_ ?_ <;> intro _ <;> try (exfalso; omega)) | refine condW_not ?_ | (refine condW_bool ?_ ?_ <;> intro _ <;> try (exfalso; omega)) | (refine nbC_t (fun _ => ?_) ?_) | (refine nbC_f ?_ (fun _ => ?_)))
        | refine And.intro (by first | omega | (simp only [Int.toNat_natCast] at *; omega) | (simp only [Nat.reduceAdd, Int.cast_ofNat_Int, true_and, and_true]; omega) | kernel_rfl) ?_
        | refine RegW.run ?_
        | fail
      exact Dle.tup (X := (cx Tryd.prog mixed tyT_ok E)) ⟨Dle.i (by rw [e]), Dle.i (by rw [e]; omega), trivial⟩
set_option maxHeartbeats 2000000 in
theorem rform_sp : ∀ (N : Nat) (t : Ts), SizeOf.sizeOf t < N → opI t → Sp (cx Tryd.prog mixed tyT_ok E) 49 [encT t] (dB (formB t))
  | 0, t, h, _ => by omega
  | N + 1, t, h, hi => by
    have ih := fun x (hx : x ∈ t.kids) => rform_sp N x (by have := tkids_lt t x hx; omega) (opI_kid hi hx)
    have hi := opI_op hi
    have hl := look3 t.op
    have hle := @least_in t.op t.kids.length
    generalize inB t.op = q at hl hle
    generalize lst t.op = n at hl hle
    refine Sp.body Tryd.func49 (by kernel_rfl) rfl (by kernel_rfl) (by kernel_rfl) (by kernel_rfl) ?_
    repeat' first
      | (refine facW_intro ?_; intro _)
      | refine Or.inl ?_
      | ((conv => whnf); first | (refine condW_dec ?_ ?_ <;> intro _ <;> try (exfalso; omega)) | refine condW_not ?_ | (refine condW_bool ?_ ?_ <;> intro _ <;> try (exfalso; omega)) | (refine nbC_t (fun _ => ?_) ?_) | (refine nbC_f ?_ (fun _ => ?_)))
      | refine And.intro (by first | omega | (simp only [Int.toNat_natCast] at *; omega) | (simp only [Nat.reduceAdd, Int.cast_ofNat_Int, true_and, and_true]; omega) | kernel_rfl) ?_
      | refine RegW.run ?_
      | refine ⟨_, hl, ?_⟩
      | fail
    all_goals first
      | exact Dle.bo (by rw [form1 (by assumption), Bool.eq_iff_iff, decide_eq_true_eq, decide_eq_true_eq]; omega)
      | exact Dle.bo (by rw [form_no1 (by assumption) (by rw [hle]; simp; grind)])
      | exact Dle.bo (by rw [form_no2 (by assumption) (by omega)])
      | skip
    all_goals
      refine ⟨Nat, fun k => [(51, i64 k)], fun k => [], [1], fun k => [], fun k => k ≤ t.kids.length ∧ allN k (fun i => kidOk t.op (t.kids.getD i .zero)) = true, fun k => t.kids.length - k, ⟨0, ⟨by omega, rfl⟩, ⟨[], ⟨by kernel_rfl, by kernel_rfl, by kernel_rfl, by kernel_rfl, by kernel_rfl, by kernel_rfl, by kernel_rfl⟩, (by repeat' first | exact trivial | exact rfl | kernel_rfl | exact Dle.of_eq rfl | exact MLe.of_eq rfl | exact Dle.i (by omega) | exact Dle.i (by simp only [Int.toNat_natCast] at *; omega) | exact Dle.nil | exact Dle.rc Dle.nil | exact Option.some_ne_none _ | exact Or.inl rfl | exact Or.inr trivial | omega | (simp only [Int.toNat_natCast] at *; omega) | (intro _ _ _ _; exact Dle.of_eq rfl) | refine And.intro ?_ ?_)⟩⟩, fun k hk => ?_⟩
      obtain ⟨hk, hall⟩ := hk
      by_cases hlt : k < t.kids.length
      · have hc := ih _ (getD_mem t.kids .zero k hlt)
        have hko : kidOk t.op (t.kids.getD k .zero) = (formB (t.kids.getD k .zero) && (decide (t.op = 4) || !decide ((t.kids.getD k .zero).op = t.op))) := rfl
        generalize formB (t.kids.getD k .zero) = b at hc hko
        repeat' first
          | (refine facW_intro ?_; intro _)
          | refine Or.inl ?_
          | ((conv => whnf); first | (refine condW_dec ?_ ?_ <;> intro _ <;> try (exfalso; omega)) | refine condW_not ?_ | (refine condW_bool ?_ ?_ <;> intro _ <;> try (exfalso; omega)) | (refine nbC_t (fun _ => ?_) ?_) | (refine nbC_f ?_ (fun _ => ?_)))
          | refine And.intro (by first | omega | (simp only [Int.toNat_natCast] at *; omega) | (simp only [Nat.reduceAdd, Int.cast_ofNat_Int, true_and, and_true]; omega) | kernel_rfl) ?_
          | refine RegW.run ?_
          | refine ⟨_, hc, ?_⟩
          | fail
        all_goals simp only [Int.toNat_natCast] at *
        all_goals first
          | exact ⟨k + 1, ⟨by omega, allN_succ hall (by rw [hko]; grind)⟩, ⟨[], ⟨by kernel_rfl, by kernel_rfl, by kernel_rfl, by kernel_rfl, by kernel_rfl, by kernel_rfl, by kernel_rfl⟩, (by repeat' first | exact trivial | exact rfl | kernel_rfl | exact Dle.of_eq rfl | exact MLe.of_eq rfl | exact Dle.i (by omega) | exact Dle.i (by simp only [Int.toNat_natCast] at *; omega) | exact Dle.nil | exact Dle.rc Dle.nil | exact Option.some_ne_none _ | exact Or.inl rfl | exact Or.inr trivial | omega | (simp only [Int.toNat_natCast] at *; omega) | (intro _ _ _ _; exact Dle.of_eq rfl) | refine And.intro ?_ ?_)⟩, by first | omega | (dsimp only; omega)⟩
          | exact Dle.bo (by rw [form_no3 (k := k) (by assumption) hlt (by rw [hko]; grind)])
          | trace_state
      · obtain rfl : k = t.kids.length := by omega
        have he := form_end (t := t) (by assumption) (by rw [hle]; simp; grind) hall
        repeat' first
          | (refine facW_intro ?_; intro _)
          | refine Or.inl ?_
          | ((conv => whnf); first | (refine condW_dec ?_ ?_ <;> intro _ <;> try (exfalso; omega)) | refine condW_not ?_ | (refine condW_bool ?_ ?_ <;> intro _ <;> try (exfalso; omega)) | (refine nbC_t (fun _ => ?_) ?_) | (refine nbC_f ?_ (fun _ => ?_)))
          | refine And.intro (by first | omega | (simp only [Int.toNat_natCast] at *; omega) | (simp only [Nat.reduceAdd, Int.cast_ofNat_Int, true_and, and_true]; omega) | kernel_rfl) ?_
          | refine RegW.run ?_
          | fail
        all_goals first
          | exact Dle.bo (by rw [he]; symm; exact decide_eq_true (by omega))
          | trace_state
theorem indexT_sp (f : Nat) (p : Ts → Bool) (l : List Ts) (hf : ∀ x ∈ l, Sp (cx Tryd.prog mixed tyT_ok E) f [encT x] (dB (p x))) : Sp (cx Tryd.prog mixed tyT_ok E) 80 [.rc (.tests l), .fn f []] (i64 (idxG p .zero l 0)) := by
  obtain ⟨r, hr⟩ : ∃ r, r = idxG p .zero l 0 := ⟨_, rfl⟩
  rw [← hr]
  refine Sp.body Tryd.func80 (by kernel_rfl) rfl (by kernel_rfl) (by kernel_rfl) (by kernel_rfl) ?_
  repeat' first
    | (refine facW_intro ?_; intro _)
    | refine Or.inl ?_
    | ((conv => whnf); first | (refine condW_dec ?_ ?_ <;> intro _ <;> try (exfalso; omega)) | refine condW_not ?_ | (refine condW_bool ?_ ?_ <;> intro _ <;> try (exfalso; omega)) | (refine nbC_t (fun _ => ?_) ?_) | (refine nbC_f ?_ (fun _ => ?_)))
    | refine And.intro (by first | omega | (simp only [Int.toNat_natCast] at *; omega) | (simp only [Nat.reduceAdd, Int.cast_ofNat_Int, true_and, and_true]; omega) | kernel_rfl) ?_
    | refine RegW.run ?_
    | fail
  refine ⟨Nat, fun k => [(8, i64 k)], fun k => [], [], fun k => [], fun k => k ≤ l.length ∧ r = idxG p .zero l k, fun k => l.length - k, ⟨0, ⟨by omega, hr⟩, ⟨[], ⟨by kernel_rfl, by kernel_rfl, by kernel_rfl, by kernel_rfl, by kernel_rfl, by kernel_rfl, by kernel_rfl⟩, (by repeat' first | exact trivial | exact rfl | kernel_rfl | exact Dle.of_eq rfl | exact MLe.of_eq rfl | exact Dle.i (by omega) | exact Dle.i (by simp only [Int.toNat_natCast] at *; omega) | exact Dle.nil | exact Dle.rc Dle.nil | exact Option.some_ne_none _ | exact Or.inl rfl | exact Or.inr trivial | omega | (simp only [Int.toNat_natCast] at *; omega) | (intro _ _ _ _; exact Dle.of_eq rfl) | refine And.intro ?_ ?_)⟩⟩, fun k hk => ?_⟩
  obtain ⟨hk, hK⟩ := hk
  by_cases hlt : k < l.length
  · have h1 := hf (l.getD k .zero) (getD_mem l .zero k hlt)
    cases hp : p (l.getD k .zero) <;> rw [hp] at h1
    · rw [idxG_next hlt hp] at hK
      repeat' first
        | (refine facW_intro ?_; intro _)
        | refine Or.inl ?_
        | ((conv => whnf); first | (refine condW_dec ?_ ?_ <;> intro _ <;> try (exfalso; omega)) | refine condW_not ?_ | (refine condW_bool ?_ ?_ <;> intro _ <;> try (exfalso; omega)) | (refine nbC_t (fun _ => ?_) ?_) | (refine nbC_f ?_ (fun _ => ?_)))
        | refine And.intro (by first | omega | (simp only [Int.toNat_natCast] at *; omega) | (simp only [Nat.reduceAdd, Int.cast_ofNat_Int, true_and, and_true]; omega) | kernel_rfl) ?_
        | refine RegW.run ?_
        | refine ⟨_, h1, ?_⟩
        | fail
      all_goals first
        | exact ⟨k + 1, ⟨by omega, hK⟩, ⟨[], ⟨by kernel_rfl, by kernel_rfl, by kernel_rfl, by kernel_rfl, by kernel_rfl, by kernel_rfl, by kernel_rfl⟩, (by repeat' first | exact trivial | exact rfl | kernel_rfl | exact Dle.of_eq rfl | exact MLe.of_eq rfl | exact Dle.i (by omega) | exact Dle.i (by simp only [Int.toNat_natCast] at *; omega) | exact Dle.nil | exact Dle.rc Dle.nil | exact Option.some_ne_none _ | exact Or.inl rfl | exact Or.inr trivial | omega | (simp only [Int.toNat_natCast] at *; omega) | (intro _ _ _ _; exact Dle.of_eq rfl) | refine And.intro ?_ ?_)⟩, by first | omega | (dsimp only; omega)⟩
        | (exfalso; rename_i h; exact h rfl)
        | trace_state
    · rw [idxG_at hlt hp] at hK
      repeat' first
        | (refine facW_intro ?_; intro _)
        | refine Or.inl ?_
        | ((conv => whnf); first | (refine condW_dec ?_ ?_ <;> intro _ <;> try (exfalso; omega)) | refine condW_not ?_ | (refine condW_bool ?_ ?_ <;> intro _ <;> try (exfalso; omega)) | (refine nbC_t (fun _ => ?_) ?_) | (refine nbC_f ?_ (fun _ => ?_)))
        | refine And.intro (by first | omega | (simp only [Int.toNat_natCast] at *; omega) | (simp only [Nat.reduceAdd, Int.cast_ofNat_Int, true_and, and_true]; omega) | kernel_rfl) ?_
        | refine RegW.run ?_
        | refine ⟨_, h1, ?_⟩
        | fail
      all_goals first
        | exact Dle.i hK.symm
        | trace_state
  · rw [idxG_end hlt] at hK
    repeat' first
      | (refine facW_intro ?_; intro _)
      | refine Or.inl ?_
      | ((conv => whnf); first | (refine condW_dec ?_ ?_ <;> intro _ <;> try (exfalso; omega)) | refine condW_not ?_ | (refine condW_bool ?_ ?_ <;> intro _ <;> try (exfalso; omega)) | (refine nbC_t (fun _ => ?_) ?_) | (refine nbC_f ?_ (fun _ => ?_)))
      | refine And.intro (by first | omega | (simp only [Int.toNat_natCast] at *; omega) | (simp only [Nat.reduceAdd, Int.cast_ofNat_Int, true_and, and_true]; omega) | kernel_rfl) ?_
      | refine RegW.run ?_
      | fail
    all_goals first
      | exact Dle.i hK.symm
      | trace_state
theorem containsT_sp (f : Nat) (p : Ts → Bool) (l : List Ts) (hf : ∀ x ∈ l, Sp (cx Tryd.prog mixed tyT_ok E) f [encT x] (dB (p x))) : Sp (cx Tryd.prog mixed tyT_ok E) 60 [.rc (.tests l), .fn f []] (dB (l.any p)) := by
  have h1 := indexT_sp E f p l hf
  rw [← idxG_any p .zero]
  generalize idxG p .zero l 0 = r at h1
  refine Sp.body Tryd.func60 (by kernel_rfl) rfl (by kernel_rfl) (by kernel_rfl) (by kernel_rfl) ?_
  repeat' first
    | (refine facW_intro ?_; intro _)
    | refine Or.inl ?_
    | ((conv => whnf); first | (refine condW_dec ?_ ?_ <;> intro _ <;> try (exfalso; omega)) | refine condW_not ?_ | (refine condW_bool ?_ ?_ <;> intro _ <;> try (exfalso; omega)) | (refine nbC_t (fun _ => ?_) ?_) | (refine nbC_f ?_ (fun _ => ?_)))
    | refine And.intro (by first | omega | (simp only [Int.toNat_natCast] at *; omega) | (simp only [Nat.reduceAdd, Int.cast_ofNat_Int, true_and, and_true]; omega) | kernel_rfl) ?_
    | refine RegW.run ?_
    | refine ⟨_, h1, ?_⟩
    | fail
  all_goals first
    | exact Dle.bo (by simp; try omega)
    | trace_state
set_option maxHeartbeats 2000000 in
theorem rrng_sp : ∀ (N : Nat) (t : Ts), SizeOf.sizeOf t < N → Sp (cx Tryd.prog mixed tyT_ok E) 50 [encT t] (dB (rngB t))
  | 0, t, h => by omega
  | N + 1, t, h => by
    have hc := containsT_sp E 61 (fun x => !rngB x) t.kids (fun x hx => by
      have ih := rrng_sp N x (by have := tkids_lt t x hx; omega)
      generalize rngB x = b at ih ⊢
      refine Sp.body Tryd.func61 (by kernel_rfl) rfl (by kernel_rfl) (by kernel_rfl) (by kernel_rfl) ?_
      repeat' first
        | (refine facW_intro ?_; intro _)
        | refine Or.inl ?_
        | ((conv => whnf); first | (refine condW_dec ?_ ?_ <;> intro _ <;> try (exfalso; omega)) | refine condW_not ?_ | (refine condW_bool ?_ ?_ <;> intro _ <;> try (exfalso; omega)) | (refine nbC_t (fun _ => ?_) ?_) | (refine nbC_f ?_ (fun _ => ?_)))
        | refine And.intro (by first | omega | (simp only [Int.toNat_natCast] at *; omega) | (simp only [Nat.reduceAdd, Int.cast_ofNat_Int, true_and, and_true]; omega) | kernel_rfl) ?_
        | refine RegW.run ?_
        | refine ⟨_, ih, ?_⟩
        | fail
      all_goals first
        | exact Dle.refl _ _
        | trace_state)
    have e : t.kids.any (fun x => !rngB x) = !t.kids.all rngB := by rw [List.not_all_eq_any_not]
    rw [e] at hc
    by_cases h1 : t.op = 1
    · rw [rng1 h1]
      refine Sp.body Tryd.func50 (by kernel_rfl) rfl (by kernel_rfl) (by kernel_rfl) (by kernel_rfl) ?_
      repeat' first
        | (refine facW_intro ?_; intro _)
        | refine Or.inl ?_
        | ((conv => whnf); first | (refine condW_dec ?_ ?_ <;> intro _ <;> try (exfalso; omega)) | refine condW_not ?_ | (refine condW_bool ?_ ?_ <;> intro _ <;> try (exfalso; omega)) | (refine nbC_t (fun _ => ?_) ?_) | (refine nbC_f ?_ (fun _ => ?_)))
        | refine And.intro (by first | omega | (simp only [Int.toNat_natCast] at *; omega) | (simp only [Nat.reduceAdd, Int.cast_ofNat_Int, true_and, and_true]; omega) | kernel_rfl) ?_
        | refine RegW.run ?_
        | fail
      all_goals first
        | exact Dle.bo (by unfold wOk; grind)
        | trace_state
    · rw [rng_eq, if_neg h1]
      generalize t.kids.all rngB = b at hc ⊢
      refine Sp.body Tryd.func50 (by kernel_rfl) rfl (by kernel_rfl) (by kernel_rfl) (by kernel_rfl) ?_
      repeat' first
        | (refine facW_intro ?_; intro _)
        | refine Or.inl ?_
        | ((conv => whnf); first | (refine condW_dec ?_ ?_ <;> intro _ <;> try (exfalso; omega)) | refine condW_not ?_ | (refine condW_bool ?_ ?_ <;> intro _ <;> try (exfalso; omega)) | (refine nbC_t (fun _ => ?_) ?_) | (refine nbC_f ?_ (fun _ => ?_)))
        | refine And.intro (by first | omega | (simp only [Int.toNat_natCast] at *; omega) | (simp only [Nat.reduceAdd, Int.cast_ofNat_Int, true_and, and_true]; omega) | kernel_rfl) ?_
        | refine RegW.run ?_
        | refine ⟨_, hc, ?_⟩
        | fail
      all_goals first
        | exact Dle.bo (by simp)
        | trace_state
end
end rule
end Go.Proofs.YtagggnjcpjodjaaDoor
