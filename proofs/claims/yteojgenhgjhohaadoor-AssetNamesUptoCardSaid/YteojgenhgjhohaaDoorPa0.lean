/-
  Paths: tree.isPath and the reference's IsPath.
-/
import Derived.Test.YteojgenhgjhohaaDoorU1
namespace Go.Proofs.YteojgenhgjhohaaDoor
open Go.RowKit
set_option linter.unusedVariables false
set_option linter.unusedSimpArgs false
def pchB (c : UInt8) : Bool := smallB c || digitB c || decide (c.toNat = 45) || decide (c.toNat = 95) || decide (c.toNat = 46)
@[irreducible] def ppartB (s : ByteArray) : Bool := decide (¬ s = ⟨#[]⟩) && decide (s.size ≤ 40) && decide (¬ s = ⟨#[46]⟩) && decide (¬ s = ⟨#[46, 46]⟩) && allN s.size (fun k => pchB (bAt s k))
@[irreducible] def pathB (s : ByteArray) : Bool := decide (s.size ≤ 200) && (pcs s ⟨#[47]⟩).all ppartB
theorem ppart_no {s : ByteArray} (h : s = ⟨#[]⟩ ∨ (40 : Int) < s.size ∨ s = ⟨#[46]⟩ ∨ s = ⟨#[46, 46]⟩) : ppartB s = false := by
  unfold ppartB
  rcases h with h | h | h | h
  · simp [h]
  · rw [decide_eq_false (p := s.size ≤ 40) (by omega)]; simp
  · simp [h]
  · simp [h]
theorem ppart_no2 {s : ByteArray} {k : Nat} (hk : k < s.size) (h : pchB (bAt s k) = false) : ppartB s = false := by
  unfold ppartB
  rw [allN_no hk h]
  simp
theorem ppart_yes {s : ByteArray} (h0 : ¬ s = ⟨#[]⟩) (h1 : ¬ (40 : Int) < s.size) (h2 : ¬ s = ⟨#[46]⟩) (h3 : ¬ s = ⟨#[46, 46]⟩) (h : allN s.size (fun k => pchB (bAt s k)) = true) : ppartB s = true := by
  unfold ppartB
  rw [decide_eq_true h0, decide_eq_true (p := s.size ≤ 40) (by omega), decide_eq_true h2, decide_eq_true h3, h]
  rfl
theorem pch_set : ∀ n : Fin 256, pchB (UInt8.ofNat n.val) = ([97, 98, 99, 100, 101, 102, 103, 104, 105, 106, 107, 108, 109, 110, 111, 112, 113, 114, 115, 116, 117, 118, 119, 120, 121, 122, 48, 49, 50, 51, 52, 53, 54, 55, 56, 57, 45, 95, 46] : List UInt8).contains (UInt8.ofNat n.val) := by decide +kernel
theorem pch_eq (b : UInt8) : pchB b = ([97, 98, 99, 100, 101, 102, 103, 104, 105, 106, 107, 108, 109, 110, 111, 112, 113, 114, 115, 116, 117, 118, 119, 120, 121, 122, 48, 49, 50, 51, 52, 53, 54, 55, 56, 57, 45, 95, 46] : List UInt8).contains b := by
  have h := pch_set ⟨b.toNat, b.toNat_lt⟩
  simp only [UInt8.ofNat_toNat] at h
  exact h
def partBs : ByteArray := ⟨#[97, 98, 99, 100, 101, 102, 103, 104, 105, 106, 107, 108, 109, 110, 111, 112, 113, 114, 115, 116, 117, 118, 119, 120, 121, 122, 48, 49, 50, 51, 52, 53, 54, 55, 56, 57, 45, 95, 46]⟩
theorem ppart_trim {s : ByteArray} (h0 : ¬ s = ⟨#[]⟩) (h1 : ¬ (40 : Int) < s.size) (h2 : ¬ s = ⟨#[46]⟩) (h3 : ¬ s = ⟨#[46, 46]⟩) : ppartB s = decide (trimV s partBs = ⟨#[]⟩) := by
  rw [Bool.eq_iff_iff, decide_eq_true_eq, trimV_nil]
  constructor
  · intro h k hk
    unfold ppartB at h
    simp only [Bool.and_eq_true] at h
    have := allN_iff.1 h.2 k hk
    rwa [pch_eq] at this
  · intro h
    exact ppart_yes h0 h1 h2 h3 (allN_iff.2 fun k hk => by rw [pch_eq]; exact h k hk)
theorem path_long {s : ByteArray} (h : (200 : Int) < s.size) : pathB s = false := by unfold pathB; rw [decide_eq_false (by omega)]; rfl
theorem path_all {s : ByteArray} (h : ¬ (200 : Int) < s.size) : pathB s = (pcs s ⟨#[47]⟩).all ppartB := by unfold pathB; rw [decide_eq_true (by omega), Bool.true_and]
theorem allp_end {p : ByteArray → Bool} {ps : List ByteArray} {k : Nat} (h : allN k (fun i => p (ps.getD i ⟨#[]⟩)) = true) (hk : ps.length ≤ k) : ps.all p = true := by
  rw [List.all_eq_true]
  intro x hx
  obtain ⟨i, hi, rfl⟩ := List.getElem_of_mem hx
  have := allN_iff.1 h i (by omega)
  simpa [List.getD, hi] using this
theorem allp_no {p : ByteArray → Bool} {ps : List ByteArray} {k : Nat} (hk : k < ps.length) (h : p (ps.getD k ⟨#[]⟩) = false) : ps.all p = false := by
  rw [List.all_eq_false]
  exact ⟨_, getD_mem ps ⟨#[]⟩ k hk, by rw [h]; decide⟩
def idxP (p : ByteArray → Bool) (l : List ByteArray) (k : Nat) : Int := if k < l.length then (if p (l.getD k ⟨#[]⟩) = true then (k : Int) else idxP p l (k + 1)) else -1
  termination_by l.length - k
theorem idxP_end {p : ByteArray → Bool} {l : List ByteArray} {k : Nat} (h : ¬ k < l.length) : idxP p l k = -1 := by rw [idxP, if_neg h]
theorem idxP_at {p : ByteArray → Bool} {l : List ByteArray} {k : Nat} (h : k < l.length) (h2 : p (l.getD k ⟨#[]⟩) = true) : idxP p l k = k := by rw [idxP, if_pos h, if_pos h2]
theorem idxP_next {p : ByteArray → Bool} {l : List ByteArray} {k : Nat} (h : k < l.length) (h2 : p (l.getD k ⟨#[]⟩) = false) : idxP p l k = idxP p l (k + 1) := by rw [idxP, if_pos h, if_neg (by rw [h2]; decide)]
theorem idxP_spec (p : ByteArray → Bool) (l : List ByteArray) : ∀ (n k : Nat), l.length - k < n → (idxP p l k = -1 ∧ (l.drop k).any p = false) ∨ ∃ m, idxP p l k = (m : Nat) ∧ m < l.length ∧ (l.drop k).any p = true
  | 0, k, h => by omega
  | n + 1, k, h => by
    rcases Nat.lt_or_ge k l.length with hk | hk
    · have e : l.drop k = l.getD k ⟨#[]⟩ :: l.drop (k + 1) := by rw [List.drop_eq_getElem_cons hk]; simp [List.getD, hk]
      rw [e, List.any_cons]
      cases hp : p (l.getD k ⟨#[]⟩)
      · rw [idxP_next hk hp, Bool.false_or]
        exact idxP_spec p l n (k + 1) (by omega)
      · exact .inr ⟨k, idxP_at hk hp, hk, rfl⟩
    · exact .inl ⟨idxP_end (by omega), by rw [List.drop_of_length_le hk]; rfl⟩
theorem idxP_any (p : ByteArray → Bool) (l : List ByteArray) : decide (0 ≤ idxP p l 0) = l.any p := by
  rcases idxP_spec p l (l.length + 1) 0 (by omega) with ⟨h1, h2⟩ | ⟨m, h1, _, h2⟩ <;> rw [List.drop_zero] at h2 <;> rw [h1, h2]
  · rfl
  · exact decide_eq_true (by omega)
section
variable (E : Env)
set_option maxRecDepth 100000
theorem t_isSmall_sp (c : UInt8) : Sp (cx Tryd.prog mixed tyT_ok E) 80 [.v (.int .u8 c.toNat)] (dB (smallB c)) := by
  refine Sp.body Tryd.func80 (by kernel_rfl) rfl (by kernel_rfl) (by kernel_rfl) (by kernel_rfl) ?_
  repeat' first
    | (refine facW_intro ?_; intro _)
    | refine Or.inl ?_
    | ((conv => whnf); first | (refine condW_dec ?_ ?_ <;> intro _ <;> try (exfalso; omega)) | refine condW_not ?_ | (refine condW_bool ?_ ?_ <;> intro _ <;> try (exfalso; omega)) | (refine nbC_t (fun _ => ?_) ?_) | (refine nbC_f ?_ (fun _ => ?_)))
    | refine And.intro (by first | omega | (simp only [Int.toNat_natCast] at *; omega) | (simp only [Nat.reduceAdd, Int.cast_ofNat_Int, true_and, and_true]; omega)  | kernel_rfl) ?_
    | refine RegW.run ?_
    | fail
  all_goals exact Dle.bo (by unfold smallB; grind)
theorem t_isDigit_sp (c : UInt8) : Sp (cx Tryd.prog mixed tyT_ok E) 81 [.v (.int .u8 c.toNat)] (dB (digitB c)) := by
  refine Sp.body Tryd.func81 (by kernel_rfl) rfl (by kernel_rfl) (by kernel_rfl) (by kernel_rfl) ?_
  repeat' first
    | (refine facW_intro ?_; intro _)
    | refine Or.inl ?_
    | ((conv => whnf); first | (refine condW_dec ?_ ?_ <;> intro _ <;> try (exfalso; omega)) | refine condW_not ?_ | (refine condW_bool ?_ ?_ <;> intro _ <;> try (exfalso; omega)) | (refine nbC_t (fun _ => ?_) ?_) | (refine nbC_f ?_ (fun _ => ?_)))
    | refine And.intro (by first | omega | (simp only [Int.toNat_natCast] at *; omega) | (simp only [Nat.reduceAdd, Int.cast_ofNat_Int, true_and, and_true]; omega)  | kernel_rfl) ?_
    | refine RegW.run ?_
    | fail
  all_goals exact Dle.bo (by unfold digitB; grind)
theorem t_isPart_sp (s : ByteArray) : Sp (cx Tryd.prog mixed tyT_ok E) 64 [dS s] (dB (ppartB s)) := by
  refine Sp.body Tryd.func64 (by kernel_rfl) rfl (by kernel_rfl) (by kernel_rfl) (by kernel_rfl) ?_
  repeat' first
    | (refine facW_intro ?_; intro _)
    | refine Or.inl ?_
    | ((conv => whnf); first | (refine condW_dec ?_ ?_ <;> intro _ <;> try (exfalso; omega)) | refine condW_not ?_ | (refine condW_bool ?_ ?_ <;> intro _ <;> try (exfalso; omega)) | (refine nbC_t (fun _ => ?_) ?_) | (refine nbC_f ?_ (fun _ => ?_)))
    | refine And.intro (by first | omega | (simp only [Int.toNat_natCast] at *; omega) | (simp only [Nat.reduceAdd, Int.cast_ofNat_Int, true_and, and_true]; omega)  | kernel_rfl) ?_
    | refine RegW.run ?_
    | fail
  all_goals first
    | exact Dle.bo (by rw [ppart_no (.inl (by assumption))])
    | exact Dle.bo (by rw [ppart_no (.inr (.inl (by assumption)))])
    | exact Dle.bo (by rw [ppart_no (.inr (.inr (.inl (by assumption))))])
    | exact Dle.bo (by rw [ppart_no (.inr (.inr (.inr (by assumption))))])
    | skip
  all_goals
    refine ⟨Nat, fun k => [(3, i64 k)], fun k => [], [], fun k => [], fun k => k ≤ s.size ∧ allN k (fun k => pchB (bAt s k)) = true, fun k => s.size - k, ⟨0, ⟨by omega, rfl⟩, ⟨[], ⟨by kernel_rfl, by kernel_rfl, by kernel_rfl, by kernel_rfl, by kernel_rfl, by kernel_rfl, by kernel_rfl⟩, (by repeat' first | exact trivial | exact rfl | kernel_rfl | exact Dle.of_eq rfl | exact MLe.of_eq rfl | exact Dle.i (by omega) | exact Dle.i (by simp only [Int.toNat_natCast] at *; omega) | exact Dle.nil | exact Dle.rc Dle.nil | exact Option.some_ne_none _ | exact Or.inl rfl | exact Or.inr trivial | omega | (simp only [Int.toNat_natCast] at *; omega) | (intro _ _ _ _; exact Dle.of_eq rfl) | refine And.intro ?_ ?_)⟩⟩, fun k hk => ?_⟩
    obtain ⟨hk, hall⟩ := hk
    have hno : k < s.size → pchB (bAt s k) = false → ppartB s = false := fun h e => ppart_no2 h e
    repeat' first
      | (refine facW_intro ?_; intro _)
      | refine Or.inl ?_
      | ((conv => whnf); first | (refine condW_dec ?_ ?_ <;> intro _) | refine condW_not ?_ | (refine condW_bool ?_ ?_ <;> intro _) | (refine nbC_t (fun _ => ?_) ?_) | (refine nbC_f ?_ (fun _ => ?_)))
      | refine And.intro (by first | omega | (simp only [Int.toNat_natCast] at *; omega) | (simp only [Nat.reduceAdd, Int.cast_ofNat_Int, true_and, and_true]; omega)  | kernel_rfl) ?_
      | refine RegW.run ?_
      | refine ⟨_, t_isSmall_sp E _, ?_⟩
      | refine ⟨_, t_isDigit_sp E _, ?_⟩
      | fail
    all_goals first
      | (refine ⟨k + 1, ⟨by omega, allN_succ hall ?_⟩, ⟨[], ⟨by kernel_rfl, by kernel_rfl, by kernel_rfl, by kernel_rfl, by kernel_rfl, by kernel_rfl, by kernel_rfl⟩, (by repeat' first | exact trivial | exact rfl | kernel_rfl | exact Dle.of_eq rfl | exact MLe.of_eq rfl | exact Dle.i (by omega) | exact Dle.i (by simp only [Int.toNat_natCast] at *; omega) | exact Dle.nil | exact Dle.rc Dle.nil | exact Option.some_ne_none _ | exact Or.inl rfl | exact Or.inr trivial | omega | (simp only [Int.toNat_natCast] at *; omega) | (intro _ _ _ _; exact Dle.of_eq rfl) | refine And.intro ?_ ?_)⟩, by first | omega | (dsimp only; omega)⟩; simp only [Int.toNat_natCast] at *; simp only [pchB, Bool.or_eq_true, decide_eq_true_eq]; grind)
      | exact Dle.bo (by rw [hno (by omega) (by simp only [Int.toNat_natCast] at *; simp only [pchB, Bool.or_eq_false_iff, decide_eq_false_iff_not]; grind)])
      | (have hk2 : k = s.size := by omega
         rw [hk2] at hall
         exact Dle.bo (by rw [ppart_yes (by assumption) (by assumption) (by assumption) (by assumption) hall]))
      | trace_state
theorem t_isPath_sp (hML : ∀ w, E.G w → ML w) (s : ByteArray) : Sp (cx Tryd.prog mixed tyT_ok E) 42 [dS s] (dB (pathB s)) := by
  by_cases hs : (200 : Int) < s.size
  · rw [path_long hs]
    refine Sp.body Tryd.func42 (by kernel_rfl) rfl (by kernel_rfl) (by kernel_rfl) (by kernel_rfl) ?_
    repeat' first
      | (refine facW_intro ?_; intro _)
      | refine Or.inl ?_
      | ((conv => whnf); first | (refine condW_dec ?_ ?_ <;> intro _ <;> try (exfalso; omega)) | refine condW_not ?_ | (refine condW_bool ?_ ?_ <;> intro _ <;> try (exfalso; omega)) | (refine nbC_t (fun _ => ?_) ?_) | (refine nbC_f ?_ (fun _ => ?_)))
      | refine And.intro (by first | omega | (simp only [Int.toNat_natCast] at *; omega) | (simp only [Nat.reduceAdd, Int.cast_ofNat_Int, true_and, and_true]; omega)  | kernel_rfl) ?_
      | refine RegW.run ?_
      | fail
    all_goals exact Dle.refl _ _
  · have h1 := split_sp E hML s ⟨#[47]⟩ (by omega) (by decide)
    have hlen := pcs_len s ⟨#[47]⟩ (by decide)
    have hcn := Lib.countB_le ⟨#[47]⟩ (by decide) _ s (Nat.le_refl _)
    rw [path_all hs]
    generalize pcs s ⟨#[47]⟩ = ps at h1 hlen ⊢
    refine Sp.body Tryd.func42 (by kernel_rfl) rfl (by kernel_rfl) (by kernel_rfl) (by kernel_rfl) ?_
    repeat' first
      | (refine facW_intro ?_; intro _)
      | refine Or.inl ?_
      | ((conv => whnf); first | (refine condW_dec ?_ ?_ <;> intro _ <;> try (exfalso; omega)) | refine condW_not ?_ | (refine condW_bool ?_ ?_ <;> intro _ <;> try (exfalso; omega)) | (refine nbC_t (fun _ => ?_) ?_) | (refine nbC_f ?_ (fun _ => ?_)))
      | refine And.intro (by first | omega | (simp only [Int.toNat_natCast] at *; omega) | (simp only [Nat.reduceAdd, Int.cast_ofNat_Int, true_and, and_true]; omega)  | kernel_rfl) ?_
      | refine RegW.run ?_
      | refine ⟨_, h1, ?_⟩
      | fail
    refine ⟨Nat, fun k => [(11, i64 k)], fun k => [], [], fun k => [], fun k => k ≤ ps.length ∧ allN k (fun i => ppartB (ps.getD i ⟨#[]⟩)) = true, fun k => ps.length - k, ⟨0, ⟨by omega, rfl⟩, ⟨[], ⟨by kernel_rfl, by kernel_rfl, by kernel_rfl, by kernel_rfl, by kernel_rfl, by kernel_rfl, by kernel_rfl⟩, (by repeat' first | exact trivial | exact rfl | kernel_rfl | exact Dle.of_eq rfl | exact MLe.of_eq rfl | exact Dle.i (by omega) | exact Dle.i (by simp only [Int.toNat_natCast] at *; omega) | exact Dle.nil | exact Dle.rc Dle.nil | exact Option.some_ne_none _ | exact Or.inl rfl | exact Or.inr trivial | omega | (simp only [Int.toNat_natCast] at *; omega) | (intro _ _ _ _; exact Dle.of_eq rfl) | refine And.intro ?_ ?_)⟩⟩, fun k hk => ?_⟩
    obtain ⟨hk, hall⟩ := hk
    repeat' first
      | (refine facW_intro ?_; intro _)
      | refine Or.inl ?_
      | ((conv => whnf); first | (refine condW_dec ?_ ?_ <;> intro _ <;> try (exfalso; omega)) | refine condW_not ?_ | (refine condW_bool ?_ ?_ <;> intro _ <;> try (exfalso; omega)) | (refine nbC_t (fun _ => ?_) ?_) | (refine nbC_f ?_ (fun _ => ?_)))
      | refine And.intro (by first | omega | (simp only [Int.toNat_natCast] at *; omega) | (simp only [Nat.reduceAdd, Int.cast_ofNat_Int, true_and, and_true]; omega)  | kernel_rfl) ?_
      | refine RegW.run ?_
      | refine ⟨_, t_isPart_sp E _, ?_⟩
      | fail
    all_goals first
      | exact ⟨k + 1, ⟨by omega, allN_succ hall (by assumption)⟩, ⟨[], ⟨by kernel_rfl, by kernel_rfl, by kernel_rfl, by kernel_rfl, by kernel_rfl, by kernel_rfl, by kernel_rfl⟩, (by repeat' first | exact trivial | exact rfl | kernel_rfl | exact Dle.of_eq rfl | exact MLe.of_eq rfl | exact Dle.i (by omega) | exact Dle.i (by simp only [Int.toNat_natCast] at *; omega) | exact Dle.nil | exact Dle.rc Dle.nil | exact Option.some_ne_none _ | exact Or.inl rfl | exact Or.inr trivial | omega | (simp only [Int.toNat_natCast] at *; omega) | (intro _ _ _ _; exact Dle.of_eq rfl) | refine And.intro ?_ ?_)⟩, by first | omega | (dsimp only; omega)⟩
      | exact Dle.bo (by rw [allp_no (k := k) (by omega) (by assumption)])
      | exact Dle.bo (by rw [allp_end hall (by omega)])
      | trace_state
def pathE (s : ByteArray) : Int := if pathB s = true then 0 else 3
theorem checkPath_sp (hML : ∀ w, E.G w → ML w) (s : ByteArray) : Sp (cx Tryd.prog mixed tyT_ok E) 27 [dS s] (i64 (pathE s)) := by
  have h1 := t_isPath_sp E hML s
  unfold pathE
  generalize pathB s = b at h1
  refine Sp.body Tryd.func27 (by kernel_rfl) rfl (by kernel_rfl) (by kernel_rfl) (by kernel_rfl) ?_
  repeat' first
    | (refine facW_intro ?_; intro _)
    | refine Or.inl ?_
    | ((conv => whnf); first | (refine condW_dec ?_ ?_ <;> intro _ <;> try (exfalso; omega)) | refine condW_not ?_ | (refine condW_bool ?_ ?_ <;> intro _ <;> try (exfalso; omega)) | (refine nbC_t (fun _ => ?_) ?_) | (refine nbC_f ?_ (fun _ => ?_)))
    | refine And.intro (by first | omega | (simp only [Int.toNat_natCast] at *; omega) | (simp only [Nat.reduceAdd, Int.cast_ofNat_Int, true_and, and_true]; omega)  | kernel_rfl) ?_
    | refine RegW.run ?_
    | refine ⟨_, h1, ?_⟩
    | fail
  all_goals first
    | exact Dle.i (by simp_all)
    | trace_state
theorem a_isPath_sp (hML : ∀ w, E.G w → ML w) (s : ByteArray) : Sp (cx Tryd.prog mixed tyT_ok E) 12 [dS s] (dB (pathB s)) := by
  have h1 := checkPath_sp E hML s
  unfold pathE at h1
  generalize pathB s = b at h1
  cases b
  · refine Sp.body Tryd.func12 (by kernel_rfl) rfl (by kernel_rfl) (by kernel_rfl) (by kernel_rfl) ?_
    repeat' first
      | (refine facW_intro ?_; intro _)
      | refine Or.inl ?_
      | ((conv => whnf); first | (refine condW_dec ?_ ?_ <;> intro _ <;> try (exfalso; omega)) | refine condW_not ?_ | (refine condW_bool ?_ ?_ <;> intro _ <;> try (exfalso; omega)) | (refine nbC_t (fun _ => ?_) ?_) | (refine nbC_f ?_ (fun _ => ?_)))
      | refine And.intro (by first | omega | (simp only [Int.toNat_natCast] at *; omega) | (simp only [Nat.reduceAdd, Int.cast_ofNat_Int, true_and, and_true]; omega)  | kernel_rfl) ?_
      | refine RegW.run ?_
      | refine ⟨_, h1, ?_⟩
      | fail
    all_goals first
      | exact Dle.bo (by simp)
      | trace_state
  · refine Sp.body Tryd.func12 (by kernel_rfl) rfl (by kernel_rfl) (by kernel_rfl) (by kernel_rfl) ?_
    repeat' first
      | (refine facW_intro ?_; intro _)
      | refine Or.inl ?_
      | ((conv => whnf); first | (refine condW_dec ?_ ?_ <;> intro _ <;> try (exfalso; omega)) | refine condW_not ?_ | (refine condW_bool ?_ ?_ <;> intro _ <;> try (exfalso; omega)) | (refine nbC_t (fun _ => ?_) ?_) | (refine nbC_f ?_ (fun _ => ?_)))
      | refine And.intro (by first | omega | (simp only [Int.toNat_natCast] at *; omega) | (simp only [Nat.reduceAdd, Int.cast_ofNat_Int, true_and, and_true]; omega)  | kernel_rfl) ?_
      | refine RegW.run ?_
      | refine ⟨_, h1, ?_⟩
      | fail
    all_goals first
      | exact Dle.bo (by simp)
      | trace_state
theorem r_isPart_sp (s : ByteArray) : Sp (cx Tryd.prog mixed tyT_ok E) 31 [dS s] (dB (ppartB s)) := by
  have h1 := trim_sp E s partBs (by decide) (by decide)
  have h2 := @ppart_trim s
  generalize trimV s partBs = t at h1 h2
  refine Sp.body Tryd.func31 (by kernel_rfl) rfl (by kernel_rfl) (by kernel_rfl) (by kernel_rfl) ?_
  repeat' first
    | (refine facW_intro ?_; intro _)
    | refine Or.inl ?_
    | ((conv => whnf); first | (refine condW_dec ?_ ?_ <;> intro _ <;> try (exfalso; omega)) | refine condW_not ?_ | (refine condW_bool ?_ ?_ <;> intro _ <;> try (exfalso; omega)) | (refine nbC_t (fun _ => ?_) ?_) | (refine nbC_f ?_ (fun _ => ?_)))
    | refine And.intro (by first | omega | (simp only [Int.toNat_natCast] at *; omega) | (simp only [Nat.reduceAdd, Int.cast_ofNat_Int, true_and, and_true]; omega)  | kernel_rfl) ?_
    | refine RegW.run ?_
    | refine ⟨_, h1, ?_⟩
    | fail
  all_goals first
    | exact Dle.bo (by rw [ppart_no (.inl (by assumption))])
    | exact Dle.bo (by rw [ppart_no (.inr (.inl (by omega)))])
    | exact Dle.bo (by rw [ppart_no (.inr (.inr (.inl (by assumption))))])
    | exact Dle.bo (by rw [ppart_no (.inr (.inr (.inr (by assumption))))])
    | exact Dle.bo (by rw [h2 (by assumption) (by omega) (by assumption) (by assumption)])
    | trace_state
theorem r_isPathC_sp (s : ByteArray) : Sp (cx Tryd.prog mixed tyT_ok E) 30 [dS s] (dB (!ppartB s)) := by
  have h1 := r_isPart_sp E s
  generalize ppartB s = b at h1
  refine Sp.body Tryd.func30 (by kernel_rfl) rfl (by kernel_rfl) (by kernel_rfl) (by kernel_rfl) ?_
  repeat' first
    | (refine facW_intro ?_; intro _)
    | refine Or.inl ?_
    | ((conv => whnf); first | (refine condW_dec ?_ ?_ <;> intro _ <;> try (exfalso; omega)) | refine condW_not ?_ | (refine condW_bool ?_ ?_ <;> intro _ <;> try (exfalso; omega)) | (refine nbC_t (fun _ => ?_) ?_) | (refine nbC_f ?_ (fun _ => ?_)))
    | refine And.intro (by first | omega | (simp only [Int.toNat_natCast] at *; omega) | (simp only [Nat.reduceAdd, Int.cast_ofNat_Int, true_and, and_true]; omega)  | kernel_rfl) ?_
    | refine RegW.run ?_
    | refine ⟨_, h1, ?_⟩
    | fail
  all_goals first
    | exact Dle.refl _ _
    | trace_state
theorem indexFuncS_sp (f : Nat) (p : ByteArray → Bool) (l : List ByteArray) (hf : ∀ s, Sp (cx Tryd.prog mixed tyT_ok E) f [dS s] (dB (p s))) (hl : l.length ≤ 1000000000000) : Sp (cx Tryd.prog mixed tyT_ok E) 43 [encStrs l, .fn f []] (i64 (idxP p l 0)) := by
  obtain ⟨r, hr⟩ : ∃ r, r = idxP p l 0 := ⟨_, rfl⟩
  rw [← hr]
  refine Sp.body Tryd.func43 (by kernel_rfl) rfl (by kernel_rfl) (by kernel_rfl) (by kernel_rfl) ?_
  repeat' first
    | (refine facW_intro ?_; intro _)
    | refine Or.inl ?_
    | ((conv => whnf); first | (refine condW_dec ?_ ?_ <;> intro _ <;> try (exfalso; omega)) | refine condW_not ?_ | (refine condW_bool ?_ ?_ <;> intro _ <;> try (exfalso; omega)) | (refine nbC_t (fun _ => ?_) ?_) | (refine nbC_f ?_ (fun _ => ?_)))
    | refine And.intro (by first | omega | (simp only [Int.toNat_natCast] at *; omega) | (simp only [Nat.reduceAdd, Int.cast_ofNat_Int, true_and, and_true]; omega)  | kernel_rfl) ?_
    | refine RegW.run ?_
    | fail
  refine ⟨Nat, fun k => [(8, i64 k)], fun k => [], [], fun k => [], fun k => k ≤ l.length ∧ r = idxP p l k, fun k => l.length - k, ⟨0, ⟨by omega, hr⟩, ⟨[], ⟨by kernel_rfl, by kernel_rfl, by kernel_rfl, by kernel_rfl, by kernel_rfl, by kernel_rfl, by kernel_rfl⟩, (by repeat' first | exact trivial | exact rfl | kernel_rfl | exact Dle.of_eq rfl | exact MLe.of_eq rfl | exact Dle.i (by omega) | exact Dle.i (by simp only [Int.toNat_natCast] at *; omega) | exact Dle.nil | exact Dle.rc Dle.nil | exact Option.some_ne_none _ | exact Or.inl rfl | exact Or.inr trivial | omega | (simp only [Int.toNat_natCast] at *; omega) | (intro _ _ _ _; exact Dle.of_eq rfl) | refine And.intro ?_ ?_)⟩⟩, fun k hk => ?_⟩
  obtain ⟨hk, hK⟩ := hk
  by_cases hlt : k < l.length
  · have h1 := hf (l.getD k ⟨#[]⟩)
    cases hp : p (l.getD k ⟨#[]⟩) <;> rw [hp] at h1
    · rw [idxP_next hlt hp] at hK
      repeat' first
        | (refine facW_intro ?_; intro _)
        | refine Or.inl ?_
        | ((conv => whnf); first | (refine condW_dec ?_ ?_ <;> intro _ <;> try (exfalso; omega)) | refine condW_not ?_ | (refine condW_bool ?_ ?_ <;> intro _ <;> try (exfalso; omega)) | (refine nbC_t (fun _ => ?_) ?_) | (refine nbC_f ?_ (fun _ => ?_)))
        | refine And.intro (by first | omega | (simp only [Int.toNat_natCast] at *; omega) | (simp only [Nat.reduceAdd, Int.cast_ofNat_Int, true_and, and_true]; omega)  | kernel_rfl) ?_
        | refine RegW.run ?_
        | refine ⟨_, h1, ?_⟩
        | fail
      all_goals first
        | exact ⟨k + 1, ⟨by omega, hK⟩, ⟨[], ⟨by kernel_rfl, by kernel_rfl, by kernel_rfl, by kernel_rfl, by kernel_rfl, by kernel_rfl, by kernel_rfl⟩, (by repeat' first | exact trivial | exact rfl | kernel_rfl | exact Dle.of_eq rfl | exact MLe.of_eq rfl | exact Dle.i (by omega) | exact Dle.i (by simp only [Int.toNat_natCast] at *; omega) | exact Dle.nil | exact Dle.rc Dle.nil | exact Option.some_ne_none _ | exact Or.inl rfl | exact Or.inr trivial | omega | (simp only [Int.toNat_natCast] at *; omega) | (intro _ _ _ _; exact Dle.of_eq rfl) | refine And.intro ?_ ?_)⟩, by first | omega | (dsimp only; omega)⟩
        | trace_state
    · rw [idxP_at hlt hp] at hK
      repeat' first
        | (refine facW_intro ?_; intro _)
        | refine Or.inl ?_
        | ((conv => whnf); first | (refine condW_dec ?_ ?_ <;> intro _ <;> try (exfalso; omega)) | refine condW_not ?_ | (refine condW_bool ?_ ?_ <;> intro _ <;> try (exfalso; omega)) | (refine nbC_t (fun _ => ?_) ?_) | (refine nbC_f ?_ (fun _ => ?_)))
        | refine And.intro (by first | omega | (simp only [Int.toNat_natCast] at *; omega) | (simp only [Nat.reduceAdd, Int.cast_ofNat_Int, true_and, and_true]; omega)  | kernel_rfl) ?_
        | refine RegW.run ?_
        | refine ⟨_, h1, ?_⟩
        | fail
      all_goals first
        | exact Dle.i hK.symm
        | trace_state
  · rw [idxP_end hlt] at hK
    repeat' first
      | (refine facW_intro ?_; intro _)
      | refine Or.inl ?_
      | ((conv => whnf); first | (refine condW_dec ?_ ?_ <;> intro _ <;> try (exfalso; omega)) | refine condW_not ?_ | (refine condW_bool ?_ ?_ <;> intro _ <;> try (exfalso; omega)) | (refine nbC_t (fun _ => ?_) ?_) | (refine nbC_f ?_ (fun _ => ?_)))
      | refine And.intro (by first | omega | (simp only [Int.toNat_natCast] at *; omega) | (simp only [Nat.reduceAdd, Int.cast_ofNat_Int, true_and, and_true]; omega)  | kernel_rfl) ?_
      | refine RegW.run ?_
      | fail
    all_goals first
      | exact Dle.i hK.symm
      | trace_state
theorem containsFuncS_sp (f : Nat) (p : ByteArray → Bool) (l : List ByteArray) (hf : ∀ s, Sp (cx Tryd.prog mixed tyT_ok E) f [dS s] (dB (p s))) (hl : l.length ≤ 1000000000000) : Sp (cx Tryd.prog mixed tyT_ok E) 29 [encStrs l, .fn f []] (dB (l.any p)) := by
  have h1 := indexFuncS_sp E f p l hf hl
  rw [← idxP_any]
  generalize idxP p l 0 = r at h1
  refine Sp.body Tryd.func29 (by kernel_rfl) rfl (by kernel_rfl) (by kernel_rfl) (by kernel_rfl) ?_
  repeat' first
    | (refine facW_intro ?_; intro _)
    | refine Or.inl ?_
    | ((conv => whnf); first | (refine condW_dec ?_ ?_ <;> intro _ <;> try (exfalso; omega)) | refine condW_not ?_ | (refine condW_bool ?_ ?_ <;> intro _ <;> try (exfalso; omega)) | (refine nbC_t (fun _ => ?_) ?_) | (refine nbC_f ?_ (fun _ => ?_)))
    | refine And.intro (by first | omega | (simp only [Int.toNat_natCast] at *; omega) | (simp only [Nat.reduceAdd, Int.cast_ofNat_Int, true_and, and_true]; omega)  | kernel_rfl) ?_
    | refine RegW.run ?_
    | refine ⟨_, h1, ?_⟩
    | fail
  all_goals first
    | exact Dle.bo (by simp; try omega)
    | trace_state
theorem r_isPath_sp (hML : ∀ w, E.G w → ML w) (s : ByteArray) : Sp (cx Tryd.prog mixed tyT_ok E) 15 [dS s] (dB (pathB s)) := by
  by_cases hs : (200 : Int) < s.size
  · have h4 := path_long hs
    refine Sp.body Tryd.func15 (by kernel_rfl) rfl (by kernel_rfl) (by kernel_rfl) (by kernel_rfl) ?_
    repeat' first
      | (refine facW_intro ?_; intro _)
      | refine Or.inl ?_
      | ((conv => whnf); first | (refine condW_dec ?_ ?_ <;> intro _ <;> try (exfalso; omega)) | refine condW_not ?_ | (refine condW_bool ?_ ?_ <;> intro _ <;> try (exfalso; omega)) | (refine nbC_t (fun _ => ?_) ?_) | (refine nbC_f ?_ (fun _ => ?_)))
      | refine And.intro (by first | omega | (simp only [Int.toNat_natCast] at *; omega) | (simp only [Nat.reduceAdd, Int.cast_ofNat_Int, true_and, and_true]; omega)  | kernel_rfl) ?_
      | refine RegW.run ?_
      | fail
    all_goals exact Dle.bo (by rw [h4])
  have h1 := split_sp E hML s ⟨#[47]⟩ (by omega) (by decide)
  have hlen := pcs_len s ⟨#[47]⟩ (by decide)
  have hcn := Lib.countB_le ⟨#[47]⟩ (by decide) _ s (Nat.le_refl _)
  have h3 := @path_all s
  have h4 := @path_long s
  generalize pcs s ⟨#[47]⟩ = ps at h1 hlen h3
  have h2 := containsFuncS_sp E 30 (fun s => !ppartB s) ps (fun s => r_isPathC_sp E s) (by omega)
  have h5 : ps.any (fun s => !ppartB s) = !ps.all ppartB := by rw [List.not_all_eq_any_not]
  rw [h5] at h2
  generalize ps.all ppartB = b at h2 h3
  refine Sp.body Tryd.func15 (by kernel_rfl) rfl (by kernel_rfl) (by kernel_rfl) (by kernel_rfl) ?_
  repeat' first
    | (refine facW_intro ?_; intro _)
    | refine Or.inl ?_
    | ((conv => whnf); first | (refine condW_dec ?_ ?_ <;> intro _ <;> try (exfalso; omega)) | refine condW_not ?_ | (refine condW_bool ?_ ?_ <;> intro _ <;> try (exfalso; omega)) | (refine nbC_t (fun _ => ?_) ?_) | (refine nbC_f ?_ (fun _ => ?_)))
    | refine And.intro (by first | omega | (simp only [Int.toNat_natCast] at *; omega) | (simp only [Nat.reduceAdd, Int.cast_ofNat_Int, true_and, and_true]; omega)  | kernel_rfl) ?_
    | refine RegW.run ?_
    | refine ⟨_, h1, ?_⟩
    | refine ⟨_, h2, ?_⟩
    | fail
  all_goals first
    | exact Dle.bo (by rw [h4 (by omega)])
    | exact Dle.bo (by rw [h3 (by omega)]; simp)
    | trace_state
end
end Go.Proofs.YteojgenhgjhohaaDoor
