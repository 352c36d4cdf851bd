/-
  conf.steps; the reference's digitsAlone, RouteParts.
-/
import Derived.Test.YtgdoelfajfjopaaGreatDoorS2
namespace Go.Proofs.YtgdoelfajfjopaaGreatDoor
open Go.RowKit
set_option linter.unusedVariables false
set_option linter.unusedSimpArgs false
theorem unsigned_no {p : ByteArray} (h : ¬ (bAt p 0).toNat = 45) : unsigned p = p := by
  unfold unsigned Lib.trimPrefix
  rw [if_neg]
  intro h2
  refine h ?_
  cases p with | mk d =>
  cases d with | mk l =>
  cases l with
  | nil => simp [Lib.hasPrefix] at h2
  | cons c r =>
    simp [Lib.hasPrefix] at h2
    subst h2
    rfl
theorem digs_of {p : ByteArray} (h1 : intB p = true) (h2 : ¬ (bAt p 0).toNat = 45) : digs p = true := by
  unfold intB at h1
  rw [unsigned_no h2] at h1
  simp at h1
  exact h1.2
theorem digs_of2 {p : ByteArray} (h1 : intB p = true) (h2 : ¬ (((bAt p (Int.toNat 0)).toNat : Int) = 45)) : digs p = true := digs_of h1 (fun h => h2 (by rw [Int.toNat_zero, h]; rfl))
theorem dig_set : ∀ n : Fin 256, digitB (UInt8.ofNat n.val) = ([48, 49, 50, 51, 52, 53, 54, 55, 56, 57] : List UInt8).contains (UInt8.ofNat n.val) := by decide +kernel
theorem idx_iff (p : ByteArray) : indexB p = true ↔ ¬ p = ⟨#[]⟩ ∧ ¬ (4 : Int) < p.size ∧ intB p = true ∧ ¬ (bAt p 0).toNat = 45 ∧ ¬ ((bAt p 0).toNat = 48 ∧ ¬ p = ⟨#[48]⟩) := by
  have hb : bAt p 0 = 48 ↔ (bAt p 0).toNat = 48 := ⟨fun h => by rw [h]; rfl, fun h => UInt8.toNat_inj.1 h⟩
  have h45 : 0 < p.size → digs p = true → ¬ (bAt p 0).toNat = 45 := fun h0 h h2 => by
    unfold digs at h
    have := digitB_iff.1 (allN_iff.1 h 0 h0)
    omega
  have hi : ¬ (bAt p 0).toNat = 45 → intB p = (decide (0 < p.size) && digs p) := fun h => by unfold intB; rw [unsigned_no h]
  have hp : ¬ p = ⟨#[]⟩ ↔ 0 < p.size := ⟨str_pos, fun h e => by subst e; exact absurd h (by decide)⟩
  rw [hp]
  unfold indexB
  simp only [Bool.and_eq_true, Bool.or_eq_true, Bool.not_eq_true', decide_eq_true_eq, decide_eq_false_iff_not, hb]
  constructor
  · rintro ⟨⟨⟨h1, h2⟩, h3⟩, h4⟩
    have h5 := h45 h1 h3
    refine ⟨h1, by omega, by rw [hi h5]; simp [h1, h3], h5, ?_⟩
    rintro ⟨h6, h7⟩
    exact h4.elim (fun h => h h6) h7
  · rintro ⟨h1, h2, h3, h4, h5⟩
    rw [hi h4] at h3
    simp only [Bool.and_eq_true] at h3
    refine ⟨⟨⟨h1, by omega⟩, h3.2⟩, ?_⟩
    by_cases h6 : (bAt p 0).toNat = 48
    · exact .inr (Classical.byContradiction fun h7 => h5 ⟨h6, h7⟩)
    · exact .inl h6
theorem idx_no {p : ByteArray} (h : p = ⟨#[]⟩ ∨ (4 : Int) < p.size ∨ intB p = false ∨ (bAt p 0).toNat = 45 ∨ ((bAt p 0).toNat = 48 ∧ ¬ p = ⟨#[48]⟩)) : indexB p = false := by
  cases e : indexB p
  · rfl
  · obtain ⟨h1, h2, h3, h4, h5⟩ := (idx_iff p).1 e
    rw [h3] at h
    rcases h with h | h | h | h | h
    · exact absurd h h1
    · exact absurd h h2
    · cases h
    · exact absurd h h4
    · exact absurd h h5
theorem no_part {stars : Bool} {p : ByteArray} (h1 : keyOkB p = false) (h2 : stars = false ∨ ¬ p = ⟨#[42]⟩) (h3 : indexB p = false) : partOk stars p = false := by
  unfold partOk
  rw [h1, h3]
  rcases h2 with h2 | h2 <;> simp [h2]
theorem yes_part {stars : Bool} {p : ByteArray} (h3 : indexB p = true) : partOk stars p = true := by
  unfold partOk
  rw [h3]
  simp
@[irreducible] def dgB (s : ByteArray) : Bool := decide (¬ s = ⟨#[]⟩) && digs s
theorem dgB_pos {s : ByteArray} (h : dgB s = true) : 0 < s.size := by
  unfold dgB at h
  simp at h
  exact str_pos h.1
theorem idx_ref (p : ByteArray) : indexB p = true ↔ dgB p = true ∧ (p.size : Int) ≤ 4 ∧ (¬ (bAt p 0).toNat = 48 ∨ p = ⟨#[48]⟩) := by
  have hb : bAt p 0 = 48 ↔ (bAt p 0).toNat = 48 := ⟨fun h => by rw [h]; rfl, fun h => UInt8.toNat_inj.1 h⟩
  have hp : ¬ p = ⟨#[]⟩ ↔ 0 < p.size := ⟨str_pos, fun h e => by subst e; exact absurd h (by decide)⟩
  unfold dgB indexB
  simp only [Bool.and_eq_true, Bool.or_eq_true, Bool.not_eq_true', decide_eq_true_eq, decide_eq_false_iff_not, hb, hp]
  constructor
  · rintro ⟨⟨⟨h1, h2⟩, h3⟩, h4⟩
    exact ⟨⟨h1, h3⟩, by omega, h4⟩
  · rintro ⟨⟨h1, h3⟩, h2, h4⟩
    exact ⟨⟨⟨h1, by omega⟩, h3⟩, h4⟩
theorem idx_refno {p : ByteArray} (h : dgB p = false ∨ ¬ (p.size : Int) ≤ 4 ∨ ((bAt p 0).toNat = 48 ∧ ¬ p = ⟨#[48]⟩)) : indexB p = false := by
  cases e : indexB p
  · rfl
  · obtain ⟨h1, h2, h3⟩ := (idx_ref p).1 e
    rw [h1] at h
    rcases h with h | h | h
    · cases h
    · exact absurd h2 h
    · exact h3.elim (fun h4 => absurd h.1 h4) (fun h4 => absurd h4 h.2)
theorem key_part {stars : Bool} {p : ByteArray} (h : keyOkB p = true) : partOk stars p = true := by unfold partOk; rw [h]; rfl
theorem star_part {stars : Bool} {p : ByteArray} (h : stars = true) (h2 : p = ⟨#[42]⟩) : partOk stars p = true := by unfold partOk; rw [h, h2]; simp
theorem step_idx {p : ByteArray} (h1 : keyOkB p = false) (h2 : indexB p = true) : stepOf p = ⟨⟨#[]⟩, numN p, false⟩ := by
  unfold stepOf
  rw [if_neg (by rw [h1]; decide), if_neg]
  rintro rfl
  have h3 : digs ⟨#[42]⟩ = true := by
    unfold indexB at h2
    simp only [Bool.and_eq_true] at h2
    exact h2.1.2
  unfold digs at h3
  exact absurd (allN_iff.1 h3 0 (by decide)) (by decide)
theorem routeOk_long {stars : Bool} {s : ByteArray} (h : (400 : Int) < s.size) : routeOk stars s = false := by unfold routeOk; rw [decide_eq_false (by omega)]; rfl
theorem routeOk_nil {stars : Bool} {s : ByteArray} (h : s = ⟨#[]⟩) : routeOk stars s = true ∧ partsR s = [] := by subst h; unfold routeOk partsR; exact ⟨rfl, rfl⟩
theorem routeOk_all {stars : Bool} {s : ByteArray} (h : ¬ (400 : Int) < s.size) (h2 : ¬ s = ⟨#[]⟩) : routeOk stars s = (pcs s ⟨#[46]⟩).all (partOk stars) ∧ partsR s = pcs s ⟨#[46]⟩ := by
  unfold routeOk partsR
  rw [decide_eq_true (by omega), decide_eq_false h2, if_neg h2]
  exact ⟨rfl, rfl⟩
theorem all_end {stars : Bool} {ps : List ByteArray} {k : Nat} (h : allN k (fun i => partOk stars (ps.getD i ⟨#[]⟩)) = true) (hk : ps.length ≤ k) : ps.all (partOk stars) = true := by
  rw [List.all_eq_true]
  intro x hx
  obtain ⟨i, hi, rfl⟩ := List.getElem_of_mem hx
  have := allN_iff.1 h i (by omega)
  simpa [List.getD, hi] using this
theorem all_no {stars : Bool} {ps : List ByteArray} {k : Nat} (hk : k < ps.length) (h : partOk stars (ps.getD k ⟨#[]⟩) = false) : ps.all (partOk stars) = false := by
  rw [List.all_eq_false]
  exact ⟨_, getD_mem ps ⟨#[]⟩ k hk, by rw [h]; decide⟩
section
variable (E : Env)
theorem row_stp (f : Nat → Stp) (k i j : Nat) (c : Stp) (hc : f k = c) (hi : i < k + 1) (hj : j < 3) : Dle (cx Tryz.prog mixed tyT_ok E) (if i < k then (f i).cell j else ([dS c.key, i64 c.number, dB c.star] : List DD).getD ((i - k + 0) * 3 + j) .opq) ((f i).cell j) :=
  row_one (X := (cx Tryz.prog mixed tyT_ok E)) (f := fun i j => (f i).cell j) (g := fun i j => (f i).cell j) (fun _ _ _ _ => Dle.refl _ _) (fun j hj => by
    show Dle _ _ ((f k).cell j)
    rw [hc]
    match j, hj with
    | 0, _ => exact Dle.refl _ _
    | 1, _ => exact Dle.refl _ _
    | 2, _ => exact Dle.refl _ _) i j hi hj
set_option maxRecDepth 100000
set_option maxHeartbeats 2000000 in
theorem steps_sp (hML : ∀ w, E.G w → ML w) (s : ByteArray) (stars : Bool) (hs : s.size ≤ 1000000000) : Sp (cx Tryz.prog mixed tyT_ok E) 102 [dS s, dB stars] (.tup [encSteps (if routeOk stars s = true then (partsR s).map stepOf else []), dB (routeOk stars s)]) := by
  have h1 := split_sp E hML s ⟨#[46]⟩ (by omega) (by decide)
  have hlen := pcs_len_le s
  refine Sp.body Tryz.func102 (by kernel_rfl) rfl (by kernel_rfl) (by kernel_rfl) (by kernel_rfl) ?_
  repeat' first
    | (refine facW_intro ?_; intro _)
    | refine Or.inl ?_
    | ((conv => whnf); first | (refine condW_dec ?_ ?_ <;> intro _) | refine condW_not ?_ | (refine condW_bool ?_ ?_ <;> intro _) | (refine nbC_t (fun _ => ?_) ?_) | (refine nbC_f ?_ (fun _ => ?_)))
    | refine And.intro (by first | omega | (simp only [Int.toNat_natCast] at *; omega) | (simp only [Nat.reduceAdd, Int.cast_ofNat_Int, true_and, and_true]; omega)  | kernel_rfl) ?_
    | refine RegW.run ?_
    | fail
  · rename_i h
    rw [routeOk_long h]
    exact Dle.tup (X := (cx Tryz.prog mixed tyT_ok E)) ⟨Dle.nil, Dle.refl _ _, trivial⟩
  · rename_i h
    rw [(routeOk_nil (stars := stars) h).1, (routeOk_nil (stars := stars) h).2]
    exact Dle.tup (X := (cx Tryz.prog mixed tyT_ok E)) ⟨Dle.nil, Dle.refl _ _, trivial⟩
  · rename_i ha hb
    rw [(routeOk_all (stars := stars) ha hb).1, (routeOk_all (stars := stars) ha hb).2]
    generalize pcs s ⟨#[46]⟩ = ps at h1 hlen
    repeat' first
      | (refine facW_intro ?_; intro _)
      | refine Or.inl ?_
      | ((conv => whnf); first | (refine condW_dec ?_ ?_ <;> intro _) | refine condW_not ?_ | (refine condW_bool ?_ ?_ <;> intro _) | (refine nbC_t (fun _ => ?_) ?_) | (refine nbC_f ?_ (fun _ => ?_)))
      | refine And.intro (by first | omega | (simp only [Int.toNat_natCast] at *; omega) | (simp only [Nat.reduceAdd, Int.cast_ofNat_Int, true_and, and_true]; omega)  | kernel_rfl) ?_
      | refine RegW.run ?_
      | refine ⟨_, h1, ?_⟩
      | fail
    refine ⟨Nat, fun k => [(19, i64 k), (6, .own 19 3 0 k)], fun k => [], [], fun k => [(19, 230, k, fun i j => (stepOf (ps.getD i ⟨#[]⟩)).cell j)], fun k => k ≤ ps.length ∧ allN k (fun i => partOk stars (ps.getD i ⟨#[]⟩)) = true, fun k => ps.length - k, ⟨0, ⟨by omega, rfl⟩, ⟨[(19, none)], ⟨by kernel_rfl, by kernel_rfl, by kernel_rfl, by kernel_rfl, by kernel_rfl, by kernel_rfl, by kernel_rfl⟩, (by repeat' first | exact trivial | exact rfl | kernel_rfl | exact Dle.of_eq rfl | exact MLe.of_eq rfl | exact Dle.i (by omega) | exact Dle.i (by simp only [Int.toNat_natCast] at *; omega) | exact Dle.nil | exact Dle.rc Dle.nil | exact Option.some_ne_none _ | exact Or.inl rfl | exact Or.inr trivial | omega | (simp only [Int.toNat_natCast] at *; omega) | (intro _ _ _ _; exact Dle.of_eq rfl) | refine And.intro ?_ ?_)⟩⟩, fun k hk => ?_⟩
    obtain ⟨hk, hall⟩ := hk
    repeat' first
      | (refine facW_intro ?_; intro _)
      | refine Or.inl ?_
      | ((conv => whnf); first | (refine condW_dec ?_ ?_ <;> intro _) | refine condW_not ?_ | (refine condW_bool ?_ ?_ <;> intro _) | (refine nbC_t (fun _ => ?_) ?_) | (refine nbC_f ?_ (fun _ => ?_)))
      | refine And.intro (by first | omega | (simp only [Int.toNat_natCast] at *; omega) | (simp only [Nat.reduceAdd, Int.cast_ofNat_Int, true_and, and_true]; omega)  | kernel_rfl) ?_
      | refine RegW.run ?_
      | refine ⟨_, isKey_sp E _, ?_⟩
      | refine ⟨_, isInteger_sp E _, ?_⟩
      | fail
    · rename_i hk1 h2
      exact ⟨k + 1, ⟨by omega, allN_succ hall (by unfold partOk; rw [show keyOkB (ps.getD k ⟨#[]⟩) = true from h2]; rfl)⟩, ⟨[(19, some 66)], ⟨by kernel_rfl, by kernel_rfl, by kernel_rfl, by kernel_rfl, by kernel_rfl, by kernel_rfl, by kernel_rfl⟩, (by repeat' first | exact trivial | exact rfl | kernel_rfl | exact Dle.of_eq rfl | exact MLe.of_eq rfl | exact Dle.i (by omega) | exact Dle.i (by simp only [Int.toNat_natCast] at *; omega) | exact Dle.nil | exact Dle.rc Dle.nil | exact Option.some_ne_none _ | exact Or.inl rfl | exact Or.inr trivial | omega | (simp only [Int.toNat_natCast] at *; omega) | (intro _ _ _ _; exact Dle.of_eq rfl) | (intro i j hi hj; exact row_stp E (fun i => stepOf (ps.getD i ⟨#[]⟩)) k i j ⟨ps.getD k ⟨#[]⟩, 0, false⟩ (if_pos h2) hi hj) | refine And.intro ?_ ?_)⟩, by first | omega | (dsimp only; omega)⟩
    · rename_i h0 hst h2
      subst hst
      have hi : indexB (ps.getD k ⟨#[]⟩) = indexB (ps.getD k ⟨#[]⟩) := rfl
      exact ⟨k + 1, ⟨by omega, allN_succ hall (by unfold partOk; rw [show ps.getD k ⟨#[]⟩ = ⟨#[42]⟩ from h2]; simp)⟩, ⟨[(19, some 76)], ⟨by kernel_rfl, by kernel_rfl, by kernel_rfl, by kernel_rfl, by kernel_rfl, by kernel_rfl, by kernel_rfl⟩, (by repeat' first | exact trivial | exact rfl | kernel_rfl | exact Dle.of_eq rfl | exact MLe.of_eq rfl | exact Dle.i (by omega) | exact Dle.i (by simp only [Int.toNat_natCast] at *; omega) | exact Dle.nil | exact Dle.rc Dle.nil | exact Option.some_ne_none _ | exact Or.inl rfl | exact Or.inr trivial | omega | (simp only [Int.toNat_natCast] at *; omega) | (intro _ _ _ _; exact Dle.of_eq rfl) | (intro i j hi hj; exact row_stp E (fun i => stepOf (ps.getD i ⟨#[]⟩)) k i j ⟨⟨#[]⟩, 0, true⟩ ((if_neg (by rw [show keyOkB (ps.getD k ⟨#[]⟩) = false from h0]; decide)).trans (if_pos h2)) hi hj) | refine And.intro ?_ ?_)⟩, by first | omega | (dsimp only; omega)⟩
    all_goals try (have hp := str_pos (s := ps.getD ((k : Int)).toNat ⟨#[]⟩) (by assumption))
    all_goals
      repeat' first
        | (refine facW_intro ?_; intro _)
        | refine Or.inl ?_
        | ((conv => whnf); first | (refine condW_dec ?_ ?_ <;> intro _) | refine condW_not ?_ | (refine condW_bool ?_ ?_ <;> intro _) | (refine nbC_t (fun _ => ?_) ?_) | (refine nbC_f ?_ (fun _ => ?_)))
        | refine And.intro (by first | omega | (simp only [Int.toNat_natCast] at *; omega) | (simp only [Nat.reduceAdd, Int.cast_ofNat_Int, true_and, and_true]; omega)  | kernel_rfl) ?_
        | refine RegW.run ?_
        | refine ⟨_, atoi_sp E _ (digs_of2 (by assumption) (by assumption)) hp (by omega), ?_⟩
        | fail
    all_goals first
      | (have hf : ps.all (partOk stars) = false := all_no (k := k) (by omega) (no_part (by assumption) (by first | exact .inl (by assumption) | exact .inr (by assumption)) (idx_no (by first | exact .inl (by assumption) | exact .inr (.inl (by assumption)) | exact .inr (.inr (.inl (by assumption))) | exact .inr (.inr (.inr (.inl (by simp only [Int.toNat_natCast, Int.toNat_zero] at *; omega)))) | exact .inr (.inr (.inr (.inr ⟨by simp only [Int.toNat_natCast, Int.toNat_zero] at *; omega, by assumption⟩))))))
         rw [hf]
         exact Dle.tup (X := (cx Tryz.prog mixed tyT_ok E)) ⟨Dle.nil, Dle.refl _ _, trivial⟩)
      | (have hi : indexB (ps.getD k ⟨#[]⟩) = true := (idx_iff _).2 ⟨by assumption, by assumption, by assumption, by simp only [Int.toNat_natCast, Int.toNat_zero] at *; omega, by first | (rintro ⟨-, h2⟩; exact h2 (by assumption)) | (rintro ⟨h2, -⟩; simp only [Int.toNat_natCast, Int.toNat_zero] at *; omega)⟩
         have hst : stepOf (ps.getD k ⟨#[]⟩) = ⟨⟨#[]⟩, numN (ps.getD k ⟨#[]⟩), false⟩ := step_idx (by assumption) hi
         exact ⟨k + 1, ⟨by omega, allN_succ hall (yes_part hi)⟩, ⟨[(19, some 58)], ⟨by kernel_rfl, by kernel_rfl, by kernel_rfl, by kernel_rfl, by kernel_rfl, by kernel_rfl, by kernel_rfl⟩, (by repeat' first | exact trivial | exact rfl | kernel_rfl | exact Dle.of_eq rfl | exact MLe.of_eq rfl | exact Dle.i (by omega) | exact Dle.i (by simp only [Int.toNat_natCast] at *; omega) | exact Dle.nil | exact Dle.rc Dle.nil | exact Option.some_ne_none _ | exact Or.inl rfl | exact Or.inr trivial | omega | (simp only [Int.toNat_natCast] at *; omega) | (intro _ _ _ _; exact Dle.of_eq rfl) | (intro i j hi hj; exact row_stp E (fun i => stepOf (ps.getD i ⟨#[]⟩)) k i j ⟨⟨#[]⟩, numN (ps.getD k ⟨#[]⟩), false⟩ hst hi hj) | refine And.intro ?_ ?_)⟩, by first | omega | (dsimp only; omega)⟩)
      | (rw [all_end hall (by omega)]
         exact Dle.tup (X := (cx Tryz.prog mixed tyT_ok E)) ⟨Dle.sl (X := (cx Tryz.prog mixed tyT_ok E)) (by simp; omega) (fun i j hi hj => Dle.of_eq (by simp [List.getD, show i < ps.length by omega])), Dle.refl _ _, trivial⟩)
theorem digitsAlone_sp (s : ByteArray) : Sp (cx Tryz.prog mixed tyT_ok E) 122 [dS s] (dB (dgB s)) := by
  have ht : digs s = decide (trimV s ⟨#[48, 49, 50, 51, 52, 53, 54, 55, 56, 57]⟩ = ⟨#[]⟩) := by
    rw [Bool.eq_iff_iff, decide_eq_true_eq, trimV_nil]
    unfold digs
    rw [allN_iff]
    have : ∀ b : UInt8, digitB b = ([48, 49, 50, 51, 52, 53, 54, 55, 56, 57] : List UInt8).contains b := fun b => by
      have h := dig_set ⟨b.toNat, b.toNat_lt⟩
      simp only [UInt8.ofNat_toNat] at h
      exact h
    simp only [this]
  unfold dgB
  rw [ht]
  have h1 := trim_sp E s ⟨#[48, 49, 50, 51, 52, 53, 54, 55, 56, 57]⟩ (by decide) (by decide)
  generalize trimV s ⟨#[48, 49, 50, 51, 52, 53, 54, 55, 56, 57]⟩ = t at h1 ⊢
  refine Sp.body Tryz.func122 (by kernel_rfl) rfl (by kernel_rfl) (by kernel_rfl) (by kernel_rfl) ?_
  repeat' first
    | (refine facW_intro ?_; intro _)
    | refine Or.inl ?_
    | ((conv => whnf); first | (refine condW_dec ?_ ?_ <;> intro _) | refine condW_not ?_ | (refine condW_bool ?_ ?_ <;> intro _) | (refine nbC_t (fun _ => ?_) ?_) | (refine nbC_f ?_ (fun _ => ?_)))
    | refine And.intro (by first | omega | (simp only [Int.toNat_natCast] at *; omega) | (simp only [Nat.reduceAdd, Int.cast_ofNat_Int, true_and, and_true]; omega)  | kernel_rfl) ?_
    | refine RegW.run ?_
    | refine ⟨_, h1, ?_⟩
    | fail
  all_goals rename_i h
  · exact Dle.bo (by rw [decide_eq_false (fun h2 => h2 h)]; rfl)
  · exact Dle.bo (by rw [decide_eq_true h]; rfl)
set_option maxHeartbeats 2000000 in
theorem routeParts_sp (hML : ∀ w, E.G w → ML w) (s : ByteArray) (stars : Bool) (hs : s.size ≤ 1000000000) : Sp (cx Tryz.prog mixed tyT_ok E) 105 [dS s, dB stars] (.tup [encStrs (if routeOk stars s = true then partsR s else []), dB (routeOk stars s)]) := by
  have h1 := split_sp E hML s ⟨#[46]⟩ (by omega) (by decide)
  have hlen := pcs_len_le s
  refine Sp.body Tryz.func105 (by kernel_rfl) rfl (by kernel_rfl) (by kernel_rfl) (by kernel_rfl) ?_
  repeat' first
    | (refine facW_intro ?_; intro _)
    | refine Or.inl ?_
    | ((conv => whnf); first | (refine condW_dec ?_ ?_ <;> intro _) | refine condW_not ?_ | (refine condW_bool ?_ ?_ <;> intro _) | (refine nbC_t (fun _ => ?_) ?_) | (refine nbC_f ?_ (fun _ => ?_)))
    | refine And.intro (by first | omega | (simp only [Int.toNat_natCast] at *; omega) | (simp only [Nat.reduceAdd, Int.cast_ofNat_Int, true_and, and_true]; omega)  | kernel_rfl) ?_
    | refine RegW.run ?_
    | fail
  · rename_i h
    rw [routeOk_long h]
    exact Dle.tup (X := (cx Tryz.prog mixed tyT_ok E)) ⟨Dle.nil, Dle.refl _ _, trivial⟩
  · rename_i h
    rw [(routeOk_nil (stars := stars) h).1, (routeOk_nil (stars := stars) h).2]
    exact Dle.tup (X := (cx Tryz.prog mixed tyT_ok E)) ⟨Dle.nil, Dle.refl _ _, trivial⟩
  · rename_i ha hb
    rw [(routeOk_all (stars := stars) ha hb).1, (routeOk_all (stars := stars) ha hb).2]
    generalize pcs s ⟨#[46]⟩ = ps at h1 hlen
    repeat' first
      | (refine facW_intro ?_; intro _)
      | refine Or.inl ?_
      | ((conv => whnf); first | (refine condW_dec ?_ ?_ <;> intro _) | refine condW_not ?_ | (refine condW_bool ?_ ?_ <;> intro _) | (refine nbC_t (fun _ => ?_) ?_) | (refine nbC_f ?_ (fun _ => ?_)))
      | refine And.intro (by first | omega | (simp only [Int.toNat_natCast] at *; omega) | (simp only [Nat.reduceAdd, Int.cast_ofNat_Int, true_and, and_true]; omega)  | kernel_rfl) ?_
      | refine RegW.run ?_
      | refine ⟨_, h1, ?_⟩
      | fail
    refine ⟨Nat, fun k => [(19, i64 k)], fun k => [], [], fun k => [], fun k => k ≤ ps.length ∧ allN k (fun i => partOk stars (ps.getD i ⟨#[]⟩)) = true, fun k => ps.length - k, ⟨0, ⟨by omega, rfl⟩, ⟨[], ⟨by kernel_rfl, by kernel_rfl, by kernel_rfl, by kernel_rfl, by kernel_rfl, by kernel_rfl, by kernel_rfl⟩, (by repeat' first | exact trivial | exact rfl | kernel_rfl | exact Dle.of_eq rfl | exact MLe.of_eq rfl | exact Dle.i (by omega) | exact Dle.i (by simp only [Int.toNat_natCast] at *; omega) | exact Dle.nil | exact Dle.rc Dle.nil | exact Option.some_ne_none _ | exact Or.inl rfl | exact Or.inr trivial | omega | (simp only [Int.toNat_natCast] at *; omega) | (intro _ _ _ _; exact Dle.of_eq rfl) | refine And.intro ?_ ?_)⟩⟩, fun k hk => ?_⟩
    obtain ⟨hk, hall⟩ := hk
    refine Or.inl ?_
    refine condW_dec ?_ ?_
    · intro hlt
      have hlt : k < ps.length := by omega
      repeat' first
        | (refine facW_intro ?_; intro _)
        | refine Or.inl ?_
        | ((conv => whnf); first | (refine condW_dec ?_ ?_ <;> intro _) | refine condW_not ?_ | (refine condW_bool ?_ ?_ <;> intro _) | (refine nbC_t (fun _ => ?_) ?_) | (refine nbC_f ?_ (fun _ => ?_)))
        | refine And.intro (by first | omega | (simp only [Int.toNat_natCast] at *; omega) | (simp only [Nat.reduceAdd, Int.cast_ofNat_Int, true_and, and_true]; omega)  | kernel_rfl) ?_
        | refine RegW.run ?_
        | refine ⟨_, digitsAlone_sp E _, ?_⟩
        | refine ⟨_, refIsKey_sp E _, ?_⟩
        | fail
      all_goals try (have hp := dgB_pos (s := ps.getD ((k : Int)).toNat ⟨#[]⟩) (by assumption))
      all_goals
        repeat' first
          | (refine facW_intro ?_; intro _)
          | refine Or.inl ?_
          | ((conv => whnf); first | (refine condW_dec ?_ ?_ <;> intro _) | refine condW_not ?_ | (refine condW_bool ?_ ?_ <;> intro _) | (refine nbC_t (fun _ => ?_) ?_) | (refine nbC_f ?_ (fun _ => ?_)))
          | refine And.intro (by first | omega | (simp only [Int.toNat_natCast] at *; omega) | (simp only [Nat.reduceAdd, Int.cast_ofNat_Int, true_and, and_true]; omega)  | kernel_rfl) ?_
          | refine RegW.run ?_
          | refine ⟨_, digitsAlone_sp E _, ?_⟩
          | refine ⟨_, refIsKey_sp E _, ?_⟩
          | fail
      all_goals first
        | (have hx : partOk stars (ps.getD k ⟨#[]⟩) = true := by first | exact key_part (by assumption) | exact star_part (by assumption) (by assumption) | exact yes_part ((idx_ref _).2 ⟨by assumption, by assumption, by first | exact .inr (by assumption) | exact .inl (by simp only [Int.toNat_natCast, Int.toNat_zero] at *; omega)⟩)
           exact ⟨k + 1, ⟨by omega, allN_succ hall hx⟩, ⟨[], ⟨by kernel_rfl, by kernel_rfl, by kernel_rfl, by kernel_rfl, by kernel_rfl, by kernel_rfl, by kernel_rfl⟩, (by repeat' first | exact trivial | exact rfl | kernel_rfl | exact Dle.of_eq rfl | exact MLe.of_eq rfl | exact Dle.i (by omega) | exact Dle.i (by simp only [Int.toNat_natCast] at *; omega) | exact Dle.nil | exact Dle.rc Dle.nil | exact Option.some_ne_none _ | exact Or.inl rfl | exact Or.inr trivial | omega | (simp only [Int.toNat_natCast] at *; omega) | (intro _ _ _ _; exact Dle.of_eq rfl) | refine And.intro ?_ ?_)⟩, by first | omega | (dsimp only; omega)⟩)
        | (have hf : ps.all (partOk stars) = false := all_no (k := k) (by omega) (no_part (by assumption) (by first | exact .inl (by assumption) | exact .inr (by assumption)) (idx_refno (by first | exact .inl (by assumption) | exact .inr (.inl (by assumption)) | exact .inr (.inr ⟨by simp only [Int.toNat_natCast, Int.toNat_zero] at *; omega, by assumption⟩))))
           rw [hf]
           exact Dle.tup (X := (cx Tryz.prog mixed tyT_ok E)) ⟨Dle.nil, Dle.refl _ _, trivial⟩)
        | exfalso
      all_goals trace_state
    · intro hge
      rw [all_end hall (by omega)]
      exact Dle.refl _ _
end
end Go.Proofs.YtgdoelfajfjopaaGreatDoor
