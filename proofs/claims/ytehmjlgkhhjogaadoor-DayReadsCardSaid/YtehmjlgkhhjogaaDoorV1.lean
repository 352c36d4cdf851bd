/-
  conf.ReadDay; the reference's DayOfString.
-/
import Derived.Test.YtehmjlgkhhjogaaDoorV0
import Derived.Test.YtehmjlgkhhjogaaDoorDays4
namespace Go.Proofs.YtehmjlgkhhjogaaDoor
open Go.RowKit Go.Proofs.YtehmjlgkhhjogaaDoor.days
set_option linter.unusedVariables false
set_option linter.unusedSimpArgs false
/-- What both answer. -/
def readR (s : ByteArray) : Int × Int := if dayB s = true then dayV (yearS s) (two s 5) (two s 8) else (0, 8)
def c0 (s : ByteArray) (i : Nat) : Int := match i with | 0 => 0 | 1 => 10 * 0 + dw s 0 | 2 => 10 * (10 * 0 + dw s 0) + dw s 1 | 3 => 10 * (10 * (10 * 0 + dw s 0) + dw s 1) + dw s 2 | _ => 10 * (10 * (10 * (10 * 0 + dw s 0) + dw s 1) + dw s 2) + dw s 3
def c1 (s : ByteArray) (i : Nat) : Int := match i with | 6 => 10 * 0 + dw s 5 | 7 => 10 * (10 * 0 + dw s 5) + dw s 6 | 8 => 10 * (10 * 0 + dw s 5) + dw s 6 | 9 => 10 * (10 * 0 + dw s 5) + dw s 6 | 10 => 10 * (10 * 0 + dw s 5) + dw s 6 | _ => 0
def c2 (s : ByteArray) (i : Nat) : Int := match i with | 9 => 10 * 0 + dw s 8 | 10 => 10 * (10 * 0 + dw s 8) + dw s 9 | _ => 0
def pK (i : Nat) : Int := match i with | 0 => 0 | 1 => 0 | 2 => 0 | 3 => 0 | 4 => 0 | 5 => 1 | 6 => 1 | 7 => 1 | _ => 2
section
variable (E : Env)
set_option maxRecDepth 100000
theorem okv (y m d : Int) : (dayV y m d).1 = (dayV y m d).1 := rfl
theorem cDayOf_sp (y m d : Int) : Sp (cx Tryd.prog mixed tyT_ok E) 32 [i64 y, i64 m, i64 d] (.tup [i64 (dayV y m d).1, i64 (dayV y m d).2]) :=
  Sp.of_new (vs := [.int .i64 y, .int .i64 m, .int .i64 d]) ⟨_, _, Tryd.func32, by kernel_rfl, rfl⟩ (fun w _ _ => (DayOf_any y m d w).mono fun e w' ⟨he, hb⟩ => ⟨_, he, hb ▸ Below.refl _ _, fun M β => .tup rfl (fun i d hi => by
    match i, hi with
    | 0, hi => obtain rfl : _ = d := by simpa using hi
               exact .v rfl
    | 1, hi => obtain rfl : _ = d := by simpa using hi
               exact .v rfl)⟩)
theorem rDayOf_sp (y m d : Int) : Sp (cx Tryd.prog mixed tyT_ok E) 35 [i64 y, i64 m, i64 d] (.tup [i64 (dayV y m d).1, i64 (dayV y m d).2]) :=
  Sp.of_new (vs := [.int .i64 y, .int .i64 m, .int .i64 d]) ⟨_, _, Tryd.func35, by kernel_rfl, rfl⟩ (fun w _ _ => (rDayOf_any y m d w).mono fun e w' ⟨he, hb⟩ => ⟨_, he, hb, fun M β => .tup rfl (fun i d hi => by
    match i, hi with
    | 0, hi => obtain rfl : _ = d := by simpa using hi
               exact .v rfl
    | 1, hi => obtain rfl : _ = d := by simpa using hi
               exact .v rfl)⟩)
theorem dayB_no {s : ByteArray} (h : ¬ (s.size : Int) = 10 ∨ ¬ ((bAt s 4).toNat : Int) = 45 ∨ ¬ ((bAt s 7).toNat : Int) = 45) : dayB s = false := by
  unfold dayB
  rcases h with h | h | h
  · rw [decide_eq_false (by omega)]; rfl
  · rw [decide_eq_false (p := (bAt s 4).toNat = 45) (by omega)]; simp
  · rw [decide_eq_false (p := (bAt s 7).toNat = 45) (by omega)]; simp
theorem dg_yes {s : ByteArray} {k : Nat} (h : digitB (bAt s k) = true) : dgAt s k = true := by unfold dgAt; rw [h]; simp
theorem dg_next {s : ByteArray} {n : Nat} (hd : ∀ k, k < n → dgAt s k = true) (h : dgAt s n = true) : ∀ k, k < n + 1 → dgAt s k = true := fun k hk => by
  rcases Nat.lt_or_ge k n with h1 | h1
  · exact hd k h1
  · obtain rfl : k = n := by omega
    exact h
theorem dayB_dg {s : ByteArray} (k : Nat) (hk : k < 10) (h4 : k ≠ 4) (h7 : k ≠ 7) (h : digitB (bAt s k) = false) : dayB s = false := by
  have : allN 10 (dgAt s) = false := allN_no hk (by unfold dgAt; simp [h4, h7, h])
  unfold dayB
  rw [this]
  simp
theorem dayForm_sp (s : ByteArray) : Sp (cx Tryd.prog mixed tyT_ok E) 33 [dS s] (dB (dayB s)) := by
  have x1 : (s.extract (Int.toNat 0) (Int.toNat 4)).size ≤ s.size := by rw [ByteArray.size_extract]; omega
  have x2 : (s.extract (Int.toNat 5) (Int.toNat 7)).size ≤ s.size := by rw [ByteArray.size_extract]; omega
  have x3 : (s.extract (Int.toNat 0) (Int.toNat 4) ++ s.extract (Int.toNat 5) (Int.toNat 7)).size = (s.extract (Int.toNat 0) (Int.toNat 4)).size + (s.extract (Int.toNat 5) (Int.toNat 7)).size := ByteArray.size_append
  have x4 : (s.extract (Int.toNat 8) s.size).size ≤ s.size := by rw [ByteArray.size_extract]; omega
  obtain ⟨r, hr⟩ : ∃ r, r = dayB s := ⟨_, rfl⟩
  rw [← hr]
  refine Sp.body Tryd.func33 (by kernel_rfl) rfl (by kernel_rfl) (by kernel_rfl) (by kernel_rfl) ?_
  repeat' first
    | (refine facW_intro ?_; intro _)
    | refine Or.inl ?_
    | ((conv => whnf); first | (refine condW_dec ?_ ?_ <;> intro _) | refine condW_not ?_ | (refine condW_bool ?_ ?_ <;> intro _))
    | refine And.intro (by first | omega | (simp only [Int.toNat_natCast] at *; omega) | (simp only [Nat.reduceAdd, Int.cast_ofNat_Int, true_and, and_true]; omega) | kernel_rfl) ?_
    | refine RegW.run ?_
    | refine ⟨_, digitsAlone_sp E _, ?_⟩
    | fail
  · rename_i h1 h2 h3
    have h1 : s.size = 10 := by omega
    have h2 : ((bAt s 4).toNat : Int) = 45 := h2
    have h3 : ((bAt s 7).toNat : Int) = 45 := h3
    refine Dle.bo ?_
    rw [hr, dayB_ref h1 (by omega) (by omega), h1]
    rfl
  all_goals exact Dle.bo (by rw [hr, dayB_no (by first | exact .inl (by assumption) | exact .inr (.inl (by assumption)) | exact .inr (.inr (by assumption)))])
theorem dayOfString_sp (s : ByteArray) : Sp (cx Tryd.prog mixed tyT_ok E) 15 [dS s] (.tup [i64 (readR s).1, i64 (readR s).2]) := by
  have hf := dayForm_sp E s
  cases hd : dayB s
  · have hr : readR s = (0, 8) := by unfold readR; rw [hd]; rfl
    rw [hr]
    rw [hd] at hf
    refine Sp.body Tryd.func15 (by kernel_rfl) rfl (by kernel_rfl) (by kernel_rfl) (by kernel_rfl) ?_
    repeat' first
      | (refine facW_intro ?_; intro _)
      | refine Or.inl ?_
      | ((conv => whnf); first | (refine condW_dec ?_ ?_ <;> intro _) | refine condW_not ?_ | (refine condW_bool ?_ ?_ <;> intro _))
      | refine And.intro (by first | omega | (simp only [Int.toNat_natCast] at *; omega) | (simp only [Nat.reduceAdd, Int.cast_ofNat_Int, true_and, and_true]; omega) | kernel_rfl) ?_
      | refine RegW.run ?_
      | refine ⟨_, hf, ?_⟩
      | fail
    exact Dle.refl _ _
  · have hr : readR s = dayV (yearS s) (two s 5) (two s 8) := by unfold readR; rw [hd]; rfl
    rw [hr]
    rw [hd] at hf
    obtain ⟨n1, n2, n3, d1, d2, d3, z1, z2, z3⟩ := day_nums hd
    have hs : s.size = 10 := by unfold dayB at hd; simp only [Bool.and_eq_true, decide_eq_true_eq] at hd; exact hd.1.1.1
    have a1 := atoi_sp E _ d1 (by omega) (by omega)
    have a2 := atoi_sp E _ d2 (by omega) (by omega)
    have a3 := atoi_sp E _ d3 (by omega) (by omega)
    rw [n1] at a1
    rw [n2] at a2
    rw [n3] at a3
    have a1 : Sp (cx Tryd.prog mixed tyT_ok E) _ [dS (s.extract (Int.toNat 0) (Int.toNat 4))] _ := a1
    have a2 : Sp (cx Tryd.prog mixed tyT_ok E) _ [dS (s.extract (Int.toNat 5) (Int.toNat 7))] _ := a2
    have a3 : Sp (cx Tryd.prog mixed tyT_ok E) 34 [dS (s.extract (Int.toNat 8) s.size)] (.tup [i64 (two s 8), .v .nilIface]) := by rw [hs]; exact a3
    have h4 := rDayOf_sp E (yearS s) (two s 5) (two s 8)
    generalize dayV (yearS s) (two s 5) (two s 8) = v at h4
    refine Sp.body Tryd.func15 (by kernel_rfl) rfl (by kernel_rfl) (by kernel_rfl) (by kernel_rfl) ?_
    repeat' first
      | (refine facW_intro ?_; intro _)
      | refine Or.inl ?_
      | ((conv => whnf); first | (refine condW_dec ?_ ?_ <;> intro _) | refine condW_not ?_ | (refine condW_bool ?_ ?_ <;> intro _))
      | refine And.intro (by first | omega | (simp only [Int.toNat_natCast] at *; omega) | (simp only [Nat.reduceAdd, Int.cast_ofNat_Int, true_and, and_true]; omega) | kernel_rfl) ?_
      | refine RegW.run ?_
      | refine ⟨_, hf, ?_⟩
      | refine ⟨_, a1, ?_⟩
      | refine ⟨_, a2, ?_⟩
      | refine ⟨_, a3, ?_⟩
      | refine ⟨_, h4, ?_⟩
      | fail
    exact Dle.refl _ _
set_option maxHeartbeats 4000000 in
theorem readDay_sp (s : ByteArray) : Sp (cx Tryd.prog mixed tyT_ok E) 14 [dS s] (.tup [i64 (readR s).1, i64 (readR s).2]) := by
  obtain ⟨r, hr⟩ : ∃ r, r = readR s := ⟨_, rfl⟩
  rw [← hr]
  have h4 := cDayOf_sp E
  refine Sp.body Tryd.func14 (by kernel_rfl) rfl (by kernel_rfl) (by kernel_rfl) (by kernel_rfl) ?_
  repeat' first
    | (refine facW_intro ?_; intro _)
    | refine Or.inl ?_
    | ((conv => whnf); first | (refine condW_dec ?_ ?_ <;> intro _) | refine condW_not ?_ | (refine condW_bool ?_ ?_ <;> intro _))
    | refine And.intro (by first | omega | (simp only [Int.toNat_natCast] at *; omega) | (simp only [Nat.reduceAdd, Int.cast_ofNat_Int, true_and, and_true]; omega) | kernel_rfl) ?_
    | refine RegW.run ?_
    | fail
  all_goals try
    (have e : readR s = (0, 8) := by unfold readR; rw [dayB_no (by first | exact .inl (by assumption) | exact .inr (.inl (by assumption)) | exact .inr (.inr (by assumption)))]; rfl
     rw [hr, e]
     exact Dle.refl _ _)
  refine ⟨Nat, fun i => [(6, i64 i), (5, i64 (pK i))], fun i => [(4, .cells [i64 (c0 s i), i64 (c1 s i), i64 (c2 s i)])], [], fun i => [], fun i => i ≤ 10 ∧ ∀ k, k < i → dgAt s k = true, fun i => 10 - i, ⟨0, ⟨by omega, fun k hk => by omega⟩, ⟨[], ⟨by kernel_rfl, by kernel_rfl, by kernel_rfl, by kernel_rfl, by kernel_rfl, by kernel_rfl, by kernel_rfl⟩, (by repeat' first | exact trivial | exact rfl | kernel_rfl | exact Dle.of_eq rfl | exact Dle.i (by omega) | exact Dle.i (by simp only [Int.toNat_natCast] at *; omega) | exact Dle.nil | exact Option.some_ne_none _ | exact Or.inl rfl | exact Or.inr trivial | omega | (simp only [Int.toNat_natCast] at *; omega) | (intro _ _ _ _; exact Dle.of_eq rfl) | refine And.intro ?_ ?_)⟩⟩, fun i hi => ?_⟩
  obtain ⟨hi, hd⟩ := hi
  have w0 := dw_range s 0
  have w1 := dw_range s 1
  have w2 := dw_range s 2
  have w3 := dw_range s 3
  have w5 := dw_range s 5
  have w6 := dw_range s 6
  have w8 := dw_range s 8
  have w9 := dw_range s 9
  match i, hi with
  | 0, _ =>
    have p0 : pK 0 = 0 := rfl
    have e00 : c0 s 0 = 0 := rfl
    have e10 : c1 s 0 = 0 := rfl
    have e20 : c2 s 0 = 0 := rfl
    have p1 : pK 1 = 0 := rfl
    have e01 : c0 s 1 = 10 * 0 + dw s 0 := rfl
    have e11 : c1 s 1 = 0 := rfl
    have e21 : c2 s 1 = 0 := rfl
    have v0 : IntKind.u8.wrap (((bAt s (((0 : Nat) : Int).toNat)).toNat : Int) - 48) = dw s 0 := rfl
    repeat' first
      | (refine facW_intro ?_; intro _)
      | refine Or.inl ?_
      | ((conv => whnf); first | (refine condW_dec ?_ ?_ <;> intro _ <;> try (exfalso; omega)) | refine condW_not ?_ | (refine condW_bool ?_ ?_ <;> intro _ <;> try (exfalso; omega)))
      | refine And.intro (by first | omega | (simp only [Int.toNat_natCast] at *; omega) | (simp only [Nat.reduceAdd, Int.cast_ofNat_Int, true_and, and_true]; omega) | kernel_rfl) ?_
      | refine RegW.run ?_
      | refine ⟨_, isDigit_sp E _, ?_⟩
      | fail
    · rename_i hg
      have hg : digitB (bAt s 0) = true := hg
      exact ⟨1, ⟨by omega, dg_next hd (dg_yes hg)⟩, ⟨[], ⟨by kernel_rfl, by kernel_rfl, by kernel_rfl, by kernel_rfl, by kernel_rfl, by kernel_rfl, by kernel_rfl⟩, (by repeat' first | exact trivial | exact rfl | kernel_rfl | exact Dle.of_eq rfl | exact Dle.i (by omega) | exact Dle.i (by simp only [Int.toNat_natCast] at *; omega) | exact Dle.nil | exact Option.some_ne_none _ | exact Or.inl rfl | exact Or.inr trivial | omega | (simp only [Int.toNat_natCast] at *; omega) | (intro _ _ _ _; exact Dle.of_eq rfl) | refine And.intro ?_ ?_)⟩, by first | omega | (dsimp only; omega)⟩
    · rename_i hg
      have hg : digitB (bAt s 0) = false := hg
      have e : readR s = (0, 8) := by unfold readR; rw [dayB_dg 0 (by decide) (by decide) (by decide) hg]; rfl
      rw [hr, e]
      exact Dle.refl _ _
  | 1, _ =>
    have p0 : pK 1 = 0 := rfl
    have e00 : c0 s 1 = 10 * 0 + dw s 0 := rfl
    have e10 : c1 s 1 = 0 := rfl
    have e20 : c2 s 1 = 0 := rfl
    have p1 : pK 2 = 0 := rfl
    have e01 : c0 s 2 = 10 * (10 * 0 + dw s 0) + dw s 1 := rfl
    have e11 : c1 s 2 = 0 := rfl
    have e21 : c2 s 2 = 0 := rfl
    have v0 : IntKind.u8.wrap (((bAt s (((1 : Nat) : Int).toNat)).toNat : Int) - 48) = dw s 1 := rfl
    repeat' first
      | (refine facW_intro ?_; intro _)
      | refine Or.inl ?_
      | ((conv => whnf); first | (refine condW_dec ?_ ?_ <;> intro _ <;> try (exfalso; omega)) | refine condW_not ?_ | (refine condW_bool ?_ ?_ <;> intro _ <;> try (exfalso; omega)))
      | refine And.intro (by first | omega | (simp only [Int.toNat_natCast] at *; omega) | (simp only [Nat.reduceAdd, Int.cast_ofNat_Int, true_and, and_true]; omega) | kernel_rfl) ?_
      | refine RegW.run ?_
      | refine ⟨_, isDigit_sp E _, ?_⟩
      | fail
    · rename_i hg
      have hg : digitB (bAt s 1) = true := hg
      exact ⟨2, ⟨by omega, dg_next hd (dg_yes hg)⟩, ⟨[], ⟨by kernel_rfl, by kernel_rfl, by kernel_rfl, by kernel_rfl, by kernel_rfl, by kernel_rfl, by kernel_rfl⟩, (by repeat' first | exact trivial | exact rfl | kernel_rfl | exact Dle.of_eq rfl | exact Dle.i (by omega) | exact Dle.i (by simp only [Int.toNat_natCast] at *; omega) | exact Dle.nil | exact Option.some_ne_none _ | exact Or.inl rfl | exact Or.inr trivial | omega | (simp only [Int.toNat_natCast] at *; omega) | (intro _ _ _ _; exact Dle.of_eq rfl) | refine And.intro ?_ ?_)⟩, by first | omega | (dsimp only; omega)⟩
    · rename_i hg
      have hg : digitB (bAt s 1) = false := hg
      have e : readR s = (0, 8) := by unfold readR; rw [dayB_dg 1 (by decide) (by decide) (by decide) hg]; rfl
      rw [hr, e]
      exact Dle.refl _ _
  | 2, _ =>
    have p0 : pK 2 = 0 := rfl
    have e00 : c0 s 2 = 10 * (10 * 0 + dw s 0) + dw s 1 := rfl
    have e10 : c1 s 2 = 0 := rfl
    have e20 : c2 s 2 = 0 := rfl
    have p1 : pK 3 = 0 := rfl
    have e01 : c0 s 3 = 10 * (10 * (10 * 0 + dw s 0) + dw s 1) + dw s 2 := rfl
    have e11 : c1 s 3 = 0 := rfl
    have e21 : c2 s 3 = 0 := rfl
    have v0 : IntKind.u8.wrap (((bAt s (((2 : Nat) : Int).toNat)).toNat : Int) - 48) = dw s 2 := rfl
    repeat' first
      | (refine facW_intro ?_; intro _)
      | refine Or.inl ?_
      | ((conv => whnf); first | (refine condW_dec ?_ ?_ <;> intro _ <;> try (exfalso; omega)) | refine condW_not ?_ | (refine condW_bool ?_ ?_ <;> intro _ <;> try (exfalso; omega)))
      | refine And.intro (by first | omega | (simp only [Int.toNat_natCast] at *; omega) | (simp only [Nat.reduceAdd, Int.cast_ofNat_Int, true_and, and_true]; omega) | kernel_rfl) ?_
      | refine RegW.run ?_
      | refine ⟨_, isDigit_sp E _, ?_⟩
      | fail
    · rename_i hg
      have hg : digitB (bAt s 2) = true := hg
      exact ⟨3, ⟨by omega, dg_next hd (dg_yes hg)⟩, ⟨[], ⟨by kernel_rfl, by kernel_rfl, by kernel_rfl, by kernel_rfl, by kernel_rfl, by kernel_rfl, by kernel_rfl⟩, (by repeat' first | exact trivial | exact rfl | kernel_rfl | exact Dle.of_eq rfl | exact Dle.i (by omega) | exact Dle.i (by simp only [Int.toNat_natCast] at *; omega) | exact Dle.nil | exact Option.some_ne_none _ | exact Or.inl rfl | exact Or.inr trivial | omega | (simp only [Int.toNat_natCast] at *; omega) | (intro _ _ _ _; exact Dle.of_eq rfl) | refine And.intro ?_ ?_)⟩, by first | omega | (dsimp only; omega)⟩
    · rename_i hg
      have hg : digitB (bAt s 2) = false := hg
      have e : readR s = (0, 8) := by unfold readR; rw [dayB_dg 2 (by decide) (by decide) (by decide) hg]; rfl
      rw [hr, e]
      exact Dle.refl _ _
  | 3, _ =>
    have p0 : pK 3 = 0 := rfl
    have e00 : c0 s 3 = 10 * (10 * (10 * 0 + dw s 0) + dw s 1) + dw s 2 := rfl
    have e10 : c1 s 3 = 0 := rfl
    have e20 : c2 s 3 = 0 := rfl
    have p1 : pK 4 = 0 := rfl
    have e01 : c0 s 4 = 10 * (10 * (10 * (10 * 0 + dw s 0) + dw s 1) + dw s 2) + dw s 3 := rfl
    have e11 : c1 s 4 = 0 := rfl
    have e21 : c2 s 4 = 0 := rfl
    have v0 : IntKind.u8.wrap (((bAt s (((3 : Nat) : Int).toNat)).toNat : Int) - 48) = dw s 3 := rfl
    repeat' first
      | (refine facW_intro ?_; intro _)
      | refine Or.inl ?_
      | ((conv => whnf); first | (refine condW_dec ?_ ?_ <;> intro _ <;> try (exfalso; omega)) | refine condW_not ?_ | (refine condW_bool ?_ ?_ <;> intro _ <;> try (exfalso; omega)))
      | refine And.intro (by first | omega | (simp only [Int.toNat_natCast] at *; omega) | (simp only [Nat.reduceAdd, Int.cast_ofNat_Int, true_and, and_true]; omega) | kernel_rfl) ?_
      | refine RegW.run ?_
      | refine ⟨_, isDigit_sp E _, ?_⟩
      | fail
    · rename_i hg
      have hg : digitB (bAt s 3) = true := hg
      exact ⟨4, ⟨by omega, dg_next hd (dg_yes hg)⟩, ⟨[], ⟨by kernel_rfl, by kernel_rfl, by kernel_rfl, by kernel_rfl, by kernel_rfl, by kernel_rfl, by kernel_rfl⟩, (by repeat' first | exact trivial | exact rfl | kernel_rfl | exact Dle.of_eq rfl | exact Dle.i (by omega) | exact Dle.i (by simp only [Int.toNat_natCast] at *; omega) | exact Dle.nil | exact Option.some_ne_none _ | exact Or.inl rfl | exact Or.inr trivial | omega | (simp only [Int.toNat_natCast] at *; omega) | (intro _ _ _ _; exact Dle.of_eq rfl) | refine And.intro ?_ ?_)⟩, by first | omega | (dsimp only; omega)⟩
    · rename_i hg
      have hg : digitB (bAt s 3) = false := hg
      have e : readR s = (0, 8) := by unfold readR; rw [dayB_dg 3 (by decide) (by decide) (by decide) hg]; rfl
      rw [hr, e]
      exact Dle.refl _ _
  | 4, _ =>
    have p0 : pK 4 = 0 := rfl
    have e00 : c0 s 4 = 10 * (10 * (10 * (10 * 0 + dw s 0) + dw s 1) + dw s 2) + dw s 3 := rfl
    have e10 : c1 s 4 = 0 := rfl
    have e20 : c2 s 4 = 0 := rfl
    have p1 : pK 5 = 1 := rfl
    have e01 : c0 s 5 = 10 * (10 * (10 * (10 * 0 + dw s 0) + dw s 1) + dw s 2) + dw s 3 := rfl
    have e11 : c1 s 5 = 0 := rfl
    have e21 : c2 s 5 = 0 := rfl
    repeat' first
      | (refine facW_intro ?_; intro _)
      | refine Or.inl ?_
      | ((conv => whnf); first | (refine condW_dec ?_ ?_ <;> intro _ <;> try (exfalso; omega)) | refine condW_not ?_ | (refine condW_bool ?_ ?_ <;> intro _ <;> try (exfalso; omega)))
      | refine And.intro (by first | omega | (simp only [Int.toNat_natCast] at *; omega) | (simp only [Nat.reduceAdd, Int.cast_ofNat_Int, true_and, and_true]; omega) | kernel_rfl) ?_
      | refine RegW.run ?_
      | refine ⟨_, isDigit_sp E _, ?_⟩
      | fail
    exact ⟨5, ⟨by omega, dg_next hd rfl⟩, ⟨[], ⟨by kernel_rfl, by kernel_rfl, by kernel_rfl, by kernel_rfl, by kernel_rfl, by kernel_rfl, by kernel_rfl⟩, (by repeat' first | exact trivial | exact rfl | kernel_rfl | exact Dle.of_eq rfl | exact Dle.i (by omega) | exact Dle.i (by simp only [Int.toNat_natCast] at *; omega) | exact Dle.nil | exact Option.some_ne_none _ | exact Or.inl rfl | exact Or.inr trivial | omega | (simp only [Int.toNat_natCast] at *; omega) | (intro _ _ _ _; exact Dle.of_eq rfl) | refine And.intro ?_ ?_)⟩, by first | omega | (dsimp only; omega)⟩
  | 5, _ =>
    have p0 : pK 5 = 1 := rfl
    have e00 : c0 s 5 = 10 * (10 * (10 * (10 * 0 + dw s 0) + dw s 1) + dw s 2) + dw s 3 := rfl
    have e10 : c1 s 5 = 0 := rfl
    have e20 : c2 s 5 = 0 := rfl
    have p1 : pK 6 = 1 := rfl
    have e01 : c0 s 6 = 10 * (10 * (10 * (10 * 0 + dw s 0) + dw s 1) + dw s 2) + dw s 3 := rfl
    have e11 : c1 s 6 = 10 * 0 + dw s 5 := rfl
    have e21 : c2 s 6 = 0 := rfl
    have v0 : IntKind.u8.wrap (((bAt s (((5 : Nat) : Int).toNat)).toNat : Int) - 48) = dw s 5 := rfl
    repeat' first
      | (refine facW_intro ?_; intro _)
      | refine Or.inl ?_
      | ((conv => whnf); first | (refine condW_dec ?_ ?_ <;> intro _ <;> try (exfalso; omega)) | refine condW_not ?_ | (refine condW_bool ?_ ?_ <;> intro _ <;> try (exfalso; omega)))
      | refine And.intro (by first | omega | (simp only [Int.toNat_natCast] at *; omega) | (simp only [Nat.reduceAdd, Int.cast_ofNat_Int, true_and, and_true]; omega) | kernel_rfl) ?_
      | refine RegW.run ?_
      | refine ⟨_, isDigit_sp E _, ?_⟩
      | fail
    · rename_i hg
      have hg : digitB (bAt s 5) = true := hg
      exact ⟨6, ⟨by omega, dg_next hd (dg_yes hg)⟩, ⟨[], ⟨by kernel_rfl, by kernel_rfl, by kernel_rfl, by kernel_rfl, by kernel_rfl, by kernel_rfl, by kernel_rfl⟩, (by repeat' first | exact trivial | exact rfl | kernel_rfl | exact Dle.of_eq rfl | exact Dle.i (by omega) | exact Dle.i (by simp only [Int.toNat_natCast] at *; omega) | exact Dle.nil | exact Option.some_ne_none _ | exact Or.inl rfl | exact Or.inr trivial | omega | (simp only [Int.toNat_natCast] at *; omega) | (intro _ _ _ _; exact Dle.of_eq rfl) | refine And.intro ?_ ?_)⟩, by first | omega | (dsimp only; omega)⟩
    · rename_i hg
      have hg : digitB (bAt s 5) = false := hg
      have e : readR s = (0, 8) := by unfold readR; rw [dayB_dg 5 (by decide) (by decide) (by decide) hg]; rfl
      rw [hr, e]
      exact Dle.refl _ _
  | 6, _ =>
    have p0 : pK 6 = 1 := rfl
    have e00 : c0 s 6 = 10 * (10 * (10 * (10 * 0 + dw s 0) + dw s 1) + dw s 2) + dw s 3 := rfl
    have e10 : c1 s 6 = 10 * 0 + dw s 5 := rfl
    have e20 : c2 s 6 = 0 := rfl
    have p1 : pK 7 = 1 := rfl
    have e01 : c0 s 7 = 10 * (10 * (10 * (10 * 0 + dw s 0) + dw s 1) + dw s 2) + dw s 3 := rfl
    have e11 : c1 s 7 = 10 * (10 * 0 + dw s 5) + dw s 6 := rfl
    have e21 : c2 s 7 = 0 := rfl
    have v0 : IntKind.u8.wrap (((bAt s (((6 : Nat) : Int).toNat)).toNat : Int) - 48) = dw s 6 := rfl
    repeat' first
      | (refine facW_intro ?_; intro _)
      | refine Or.inl ?_
      | ((conv => whnf); first | (refine condW_dec ?_ ?_ <;> intro _ <;> try (exfalso; omega)) | refine condW_not ?_ | (refine condW_bool ?_ ?_ <;> intro _ <;> try (exfalso; omega)))
      | refine And.intro (by first | omega | (simp only [Int.toNat_natCast] at *; omega) | (simp only [Nat.reduceAdd, Int.cast_ofNat_Int, true_and, and_true]; omega) | kernel_rfl) ?_
      | refine RegW.run ?_
      | refine ⟨_, isDigit_sp E _, ?_⟩
      | fail
    · rename_i hg
      have hg : digitB (bAt s 6) = true := hg
      exact ⟨7, ⟨by omega, dg_next hd (dg_yes hg)⟩, ⟨[], ⟨by kernel_rfl, by kernel_rfl, by kernel_rfl, by kernel_rfl, by kernel_rfl, by kernel_rfl, by kernel_rfl⟩, (by repeat' first | exact trivial | exact rfl | kernel_rfl | exact Dle.of_eq rfl | exact Dle.i (by omega) | exact Dle.i (by simp only [Int.toNat_natCast] at *; omega) | exact Dle.nil | exact Option.some_ne_none _ | exact Or.inl rfl | exact Or.inr trivial | omega | (simp only [Int.toNat_natCast] at *; omega) | (intro _ _ _ _; exact Dle.of_eq rfl) | refine And.intro ?_ ?_)⟩, by first | omega | (dsimp only; omega)⟩
    · rename_i hg
      have hg : digitB (bAt s 6) = false := hg
      have e : readR s = (0, 8) := by unfold readR; rw [dayB_dg 6 (by decide) (by decide) (by decide) hg]; rfl
      rw [hr, e]
      exact Dle.refl _ _
  | 7, _ =>
    have p0 : pK 7 = 1 := rfl
    have e00 : c0 s 7 = 10 * (10 * (10 * (10 * 0 + dw s 0) + dw s 1) + dw s 2) + dw s 3 := rfl
    have e10 : c1 s 7 = 10 * (10 * 0 + dw s 5) + dw s 6 := rfl
    have e20 : c2 s 7 = 0 := rfl
    have p1 : pK 8 = 2 := rfl
    have e01 : c0 s 8 = 10 * (10 * (10 * (10 * 0 + dw s 0) + dw s 1) + dw s 2) + dw s 3 := rfl
    have e11 : c1 s 8 = 10 * (10 * 0 + dw s 5) + dw s 6 := rfl
    have e21 : c2 s 8 = 0 := rfl
    repeat' first
      | (refine facW_intro ?_; intro _)
      | refine Or.inl ?_
      | ((conv => whnf); first | (refine condW_dec ?_ ?_ <;> intro _ <;> try (exfalso; omega)) | refine condW_not ?_ | (refine condW_bool ?_ ?_ <;> intro _ <;> try (exfalso; omega)))
      | refine And.intro (by first | omega | (simp only [Int.toNat_natCast] at *; omega) | (simp only [Nat.reduceAdd, Int.cast_ofNat_Int, true_and, and_true]; omega) | kernel_rfl) ?_
      | refine RegW.run ?_
      | refine ⟨_, isDigit_sp E _, ?_⟩
      | fail
    exact ⟨8, ⟨by omega, dg_next hd rfl⟩, ⟨[], ⟨by kernel_rfl, by kernel_rfl, by kernel_rfl, by kernel_rfl, by kernel_rfl, by kernel_rfl, by kernel_rfl⟩, (by repeat' first | exact trivial | exact rfl | kernel_rfl | exact Dle.of_eq rfl | exact Dle.i (by omega) | exact Dle.i (by simp only [Int.toNat_natCast] at *; omega) | exact Dle.nil | exact Option.some_ne_none _ | exact Or.inl rfl | exact Or.inr trivial | omega | (simp only [Int.toNat_natCast] at *; omega) | (intro _ _ _ _; exact Dle.of_eq rfl) | refine And.intro ?_ ?_)⟩, by first | omega | (dsimp only; omega)⟩
  | 8, _ =>
    have p0 : pK 8 = 2 := rfl
    have e00 : c0 s 8 = 10 * (10 * (10 * (10 * 0 + dw s 0) + dw s 1) + dw s 2) + dw s 3 := rfl
    have e10 : c1 s 8 = 10 * (10 * 0 + dw s 5) + dw s 6 := rfl
    have e20 : c2 s 8 = 0 := rfl
    have p1 : pK 9 = 2 := rfl
    have e01 : c0 s 9 = 10 * (10 * (10 * (10 * 0 + dw s 0) + dw s 1) + dw s 2) + dw s 3 := rfl
    have e11 : c1 s 9 = 10 * (10 * 0 + dw s 5) + dw s 6 := rfl
    have e21 : c2 s 9 = 10 * 0 + dw s 8 := rfl
    have v0 : IntKind.u8.wrap (((bAt s (((8 : Nat) : Int).toNat)).toNat : Int) - 48) = dw s 8 := rfl
    repeat' first
      | (refine facW_intro ?_; intro _)
      | refine Or.inl ?_
      | ((conv => whnf); first | (refine condW_dec ?_ ?_ <;> intro _ <;> try (exfalso; omega)) | refine condW_not ?_ | (refine condW_bool ?_ ?_ <;> intro _ <;> try (exfalso; omega)))
      | refine And.intro (by first | omega | (simp only [Int.toNat_natCast] at *; omega) | (simp only [Nat.reduceAdd, Int.cast_ofNat_Int, true_and, and_true]; omega) | kernel_rfl) ?_
      | refine RegW.run ?_
      | refine ⟨_, isDigit_sp E _, ?_⟩
      | fail
    · rename_i hg
      have hg : digitB (bAt s 8) = true := hg
      exact ⟨9, ⟨by omega, dg_next hd (dg_yes hg)⟩, ⟨[], ⟨by kernel_rfl, by kernel_rfl, by kernel_rfl, by kernel_rfl, by kernel_rfl, by kernel_rfl, by kernel_rfl⟩, (by repeat' first | exact trivial | exact rfl | kernel_rfl | exact Dle.of_eq rfl | exact Dle.i (by omega) | exact Dle.i (by simp only [Int.toNat_natCast] at *; omega) | exact Dle.nil | exact Option.some_ne_none _ | exact Or.inl rfl | exact Or.inr trivial | omega | (simp only [Int.toNat_natCast] at *; omega) | (intro _ _ _ _; exact Dle.of_eq rfl) | refine And.intro ?_ ?_)⟩, by first | omega | (dsimp only; omega)⟩
    · rename_i hg
      have hg : digitB (bAt s 8) = false := hg
      have e : readR s = (0, 8) := by unfold readR; rw [dayB_dg 8 (by decide) (by decide) (by decide) hg]; rfl
      rw [hr, e]
      exact Dle.refl _ _
  | 9, _ =>
    have p0 : pK 9 = 2 := rfl
    have e00 : c0 s 9 = 10 * (10 * (10 * (10 * 0 + dw s 0) + dw s 1) + dw s 2) + dw s 3 := rfl
    have e10 : c1 s 9 = 10 * (10 * 0 + dw s 5) + dw s 6 := rfl
    have e20 : c2 s 9 = 10 * 0 + dw s 8 := rfl
    have p1 : pK 10 = 2 := rfl
    have e01 : c0 s 10 = 10 * (10 * (10 * (10 * 0 + dw s 0) + dw s 1) + dw s 2) + dw s 3 := rfl
    have e11 : c1 s 10 = 10 * (10 * 0 + dw s 5) + dw s 6 := rfl
    have e21 : c2 s 10 = 10 * (10 * 0 + dw s 8) + dw s 9 := rfl
    have v0 : IntKind.u8.wrap (((bAt s (((9 : Nat) : Int).toNat)).toNat : Int) - 48) = dw s 9 := rfl
    repeat' first
      | (refine facW_intro ?_; intro _)
      | refine Or.inl ?_
      | ((conv => whnf); first | (refine condW_dec ?_ ?_ <;> intro _ <;> try (exfalso; omega)) | refine condW_not ?_ | (refine condW_bool ?_ ?_ <;> intro _ <;> try (exfalso; omega)))
      | refine And.intro (by first | omega | (simp only [Int.toNat_natCast] at *; omega) | (simp only [Nat.reduceAdd, Int.cast_ofNat_Int, true_and, and_true]; omega) | kernel_rfl) ?_
      | refine RegW.run ?_
      | refine ⟨_, isDigit_sp E _, ?_⟩
      | fail
    · rename_i hg
      have hg : digitB (bAt s 9) = true := hg
      exact ⟨10, ⟨by omega, dg_next hd (dg_yes hg)⟩, ⟨[], ⟨by kernel_rfl, by kernel_rfl, by kernel_rfl, by kernel_rfl, by kernel_rfl, by kernel_rfl, by kernel_rfl⟩, (by repeat' first | exact trivial | exact rfl | kernel_rfl | exact Dle.of_eq rfl | exact Dle.i (by omega) | exact Dle.i (by simp only [Int.toNat_natCast] at *; omega) | exact Dle.nil | exact Option.some_ne_none _ | exact Or.inl rfl | exact Or.inr trivial | omega | (simp only [Int.toNat_natCast] at *; omega) | (intro _ _ _ _; exact Dle.of_eq rfl) | refine And.intro ?_ ?_)⟩, by first | omega | (dsimp only; omega)⟩
    · rename_i hg
      have hg : digitB (bAt s 9) = false := hg
      have e : readR s = (0, 8) := by unfold readR; rw [dayB_dg 9 (by decide) (by decide) (by decide) hg]; rfl
      rw [hr, e]
      exact Dle.refl _ _
  | 10, _ =>
    have q0 : c0 s 10 = yearS s := by
      show 10 * (10 * (10 * (10 * 0 + dw s 0) + dw s 1) + dw s 2) + dw s 3 = yearS s
      unfold yearS
      omega
    have q1 : c1 s 10 = two s 5 := by
      show 10 * (10 * 0 + dw s 5) + dw s 6 = 10 * dw s 5 + dw s 6
      omega
    have q2 : c2 s 10 = two s 8 := by
      show 10 * (10 * 0 + dw s 8) + dw s 9 = 10 * dw s 8 + dw s 9
      omega
    have hb : dayB s = true := by
      have h1 : s.size = 10 := by omega
      have x4 : ((bAt s 4).toNat : Int) = 45 := by assumption
      have x7 : ((bAt s 7).toNat : Int) = 45 := by assumption
      unfold dayB
      rw [decide_eq_true h1, allN_iff.2 hd, decide_eq_true (p := (bAt s 4).toNat = 45) (by omega), decide_eq_true (p := (bAt s 7).toNat = 45) (by omega)]
      rfl
    have e : readR s = dayV (c0 s 10) (c1 s 10) (c2 s 10) := by unfold readR; rw [hb, q0, q1, q2]; rfl
    have h4 := h4 (c0 s 10) (c1 s 10) (c2 s 10)
    rw [hr, e]
    generalize dayV (c0 s 10) (c1 s 10) (c2 s 10) = v at h4 ⊢
    repeat' first
      | (refine facW_intro ?_; intro _)
      | refine Or.inl ?_
      | ((conv => whnf); first | (refine condW_dec ?_ ?_ <;> intro _ <;> try (exfalso; omega)) | refine condW_not ?_ | (refine condW_bool ?_ ?_ <;> intro _ <;> try (exfalso; omega)))
      | refine And.intro (by first | omega | (simp only [Int.toNat_natCast] at *; omega) | (simp only [Nat.reduceAdd, Int.cast_ofNat_Int, true_and, and_true]; omega) | kernel_rfl) ?_
      | refine RegW.run ?_
      | refine ⟨_, h4, ?_⟩
      | fail
    exact Dle.refl _ _
end
end Go.Proofs.YtehmjlgkhhjogaaDoor
