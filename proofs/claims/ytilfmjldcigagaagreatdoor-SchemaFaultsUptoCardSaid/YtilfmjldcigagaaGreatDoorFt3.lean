/-
  Faults of a value by a schema: judge.value.
-/
import Derived.Test.YtilfmjldcigagaaGreatDoorFt2
namespace Go.Proofs.YtilfmjldcigagaaGreatDoor
open Go.RowKit
set_option linter.unusedVariables false
set_option pp.maxSteps 300
set_option linter.unusedSimpArgs false
namespace ft
section
variable (E : Env)
set_option maxRecDepth 100000
theorem add_2000_24 (l : List Flt) (hl : l.length ≤ 1000000000000) (r : ByteArray) (k : Int) :
    SpH (cx Tryz.prog mixed tyT_ok E) 46 [.ptr 3000 0, dS r, i64 k] (jH l 3000 2000) (.tup []) (jH (l ++ [(r, k)]) 3000 24) := by
  have h := ((add_sp E l hl r k).swap 2000 2000).swap 15 24
  have e1 : swp 15 24 (swp 2000 2000 3000) = 3000 := by decide
  have e2 : swp 15 24 (swp 2000 2000 2000) = 2000 := by decide
  have e3 : swp 15 24 (swp 2000 2000 15) = 24 := by decide
  simp only [D.renL, D.ren, renH, Ob.ren, e1, e2, e3] at h
  exact h
theorem add_2000_41 (l : List Flt) (hl : l.length ≤ 1000000000000) (r : ByteArray) (k : Int) :
    SpH (cx Tryz.prog mixed tyT_ok E) 46 [.ptr 3000 0, dS r, i64 k] (jH l 3000 2000) (.tup []) (jH (l ++ [(r, k)]) 3000 41) := by
  have h := ((add_sp E l hl r k).swap 2000 2000).swap 15 41
  have e1 : swp 15 41 (swp 2000 2000 3000) = 3000 := by decide
  have e2 : swp 15 41 (swp 2000 2000 2000) = 2000 := by decide
  have e3 : swp 15 41 (swp 2000 2000 15) = 41 := by decide
  simp only [D.renL, D.ren, renH, Ob.ren, e1, e2, e3] at h
  exact h
theorem add_2000_48 (l : List Flt) (hl : l.length ≤ 1000000000000) (r : ByteArray) (k : Int) :
    SpH (cx Tryz.prog mixed tyT_ok E) 46 [.ptr 3000 0, dS r, i64 k] (jH l 3000 2000) (.tup []) (jH (l ++ [(r, k)]) 3000 48) := by
  have h := ((add_sp E l hl r k).swap 2000 2000).swap 15 48
  have e1 : swp 15 48 (swp 2000 2000 3000) = 3000 := by decide
  have e2 : swp 15 48 (swp 2000 2000 2000) = 2000 := by decide
  have e3 : swp 15 48 (swp 2000 2000 15) = 48 := by decide
  simp only [D.renL, D.ren, renH, Ob.ren, e1, e2, e3] at h
  exact h
theorem add_2000_72 (l : List Flt) (hl : l.length ≤ 1000000000000) (r : ByteArray) (k : Int) :
    SpH (cx Tryz.prog mixed tyT_ok E) 46 [.ptr 3000 0, dS r, i64 k] (jH l 3000 2000) (.tup []) (jH (l ++ [(r, k)]) 3000 72) := by
  have h := ((add_sp E l hl r k).swap 2000 2000).swap 15 72
  have e1 : swp 15 72 (swp 2000 2000 3000) = 3000 := by decide
  have e2 : swp 15 72 (swp 2000 2000 2000) = 2000 := by decide
  have e3 : swp 15 72 (swp 2000 2000 15) = 72 := by decide
  simp only [D.renL, D.ren, renH, Ob.ren, e1, e2, e3] at h
  exact h
theorem add_41_72 (l : List Flt) (hl : l.length ≤ 1000000000000) (r : ByteArray) (k : Int) :
    SpH (cx Tryz.prog mixed tyT_ok E) 46 [.ptr 3000 0, dS r, i64 k] (jH l 3000 41) (.tup []) (jH (l ++ [(r, k)]) 3000 72) := by
  have h := ((add_sp E l hl r k).swap 2000 41).swap 15 72
  have e1 : swp 15 72 (swp 2000 41 3000) = 3000 := by decide
  have e2 : swp 15 72 (swp 2000 41 2000) = 41 := by decide
  have e3 : swp 15 72 (swp 2000 41 15) = 72 := by decide
  simp only [D.renL, D.ren, renH, Ob.ren, e1, e2, e3] at h
  exact h
theorem add_48_72 (l : List Flt) (hl : l.length ≤ 1000000000000) (r : ByteArray) (k : Int) :
    SpH (cx Tryz.prog mixed tyT_ok E) 46 [.ptr 3000 0, dS r, i64 k] (jH l 3000 48) (.tup []) (jH (l ++ [(r, k)]) 3000 72) := by
  have h := ((add_sp E l hl r k).swap 2000 48).swap 15 72
  have e1 : swp 15 72 (swp 2000 48 3000) = 3000 := by decide
  have e2 : swp 15 72 (swp 2000 48 2000) = 48 := by decide
  have e3 : swp 15 72 (swp 2000 48 15) = 72 := by decide
  simp only [D.renL, D.ren, renH, Ob.ren, e1, e2, e3] at h
  exact h
set_option maxHeartbeats 8000000 in
theorem value_sp (l : List Flt) (hl : l.length ≤ 1000000000) (f : Fd) (v : Vu) (r : ByteArray) :
    SpH (cx Tryz.prog mixed tyT_ok E) 94 [.ptr 3000 0, encF f, encV v, dS r] (jH l 3000 2000) (.tup []) (jH (l ++ valF f v r) 3000 72) := by
  have h1 := measure_sp E v
  unfold valF
  by_cases hk : f.kind ≠ -1 ∧ v.kind ≠ f.kind
  · rw [if_pos hk]
    have h2 := add_2000_24 E l (by omega) r 2
    refine SpH.body Tryz.func94 (by kernel_rfl) rfl (by kernel_rfl) (by kernel_rfl) (by kernel_rfl) ?_
    repeat' first
      | refine Or.inr ⟨_, _, _, h2, by kernel_rfl, (by repeat' first | exact trivial | exact rfl | kernel_rfl | exact Dle.of_eq rfl | exact MLe.of_eq rfl | exact Dle.i (by omega) | exact Dle.i (by simp only [Int.toNat_natCast] at *; omega) | exact Dle.nil | exact Dle.rc Dle.nil | exact Option.some_ne_none _ | exact Or.inl rfl | exact Or.inr trivial | omega | (simp only [Int.toNat_natCast] at *; omega) | (intro _ _ _ _; exact Dle.of_eq rfl) | refine And.intro ?_ ?_), ?_⟩
      | (refine facW_intro ?_; intro _)
      | refine Or.inl ?_
      | ((conv => whnf); first | (refine condW_dec ?_ ?_ <;> intro _ <;> try (exfalso; omega)) | refine condW_not ?_ | (refine condW_bool ?_ ?_ <;> intro _ <;> try (exfalso; omega)) | (refine nbC_t (fun _ => ?_) ?_) | (refine nbC_f ?_ (fun _ => ?_)))
      | refine And.intro (by first | omega | (simp only [Int.toNat_natCast] at *; omega) | (simp only [Nat.reduceAdd, Int.cast_ofNat_Int, true_and, and_true]; omega) | kernel_rfl) ?_
      | refine RegW.run ?_
      | refine ⟨_, h1, ?_⟩
      | fail
    all_goals first
      | exact ⟨[(3000, .cells [.own 72 2 0 (l ++ [(r, 2)]).length])], [(72, 95, (l ++ [(r, 2)]).length, rowQ (l ++ [(r, 2)]))], rfl, ⟨[(72, some 24)], ⟨by kernel_rfl, by kernel_rfl, by kernel_rfl, by kernel_rfl, by kernel_rfl, by kernel_rfl, by kernel_rfl⟩, (by repeat' first | exact trivial | exact rfl | kernel_rfl | exact Dle.of_eq rfl | exact MLe.of_eq rfl | exact Dle.i (by omega) | exact Dle.i (by simp only [Int.toNat_natCast] at *; omega) | exact Dle.nil | exact Dle.rc Dle.nil | exact Option.some_ne_none _ | exact Or.inl rfl | exact Or.inr trivial | omega | (simp only [Int.toNat_natCast] at *; omega) | (intro _ _ _ _; exact Dle.of_eq rfl) | (intro i j hi hj; exact Dle.refl _ _) | refine And.intro ?_ ?_)⟩, rfl⟩
      | trace_state
  · rw [if_neg hk]
    have hk' : f.kind = -1 ∨ v.kind = f.kind := by
      by_cases h : f.kind = -1
      · exact .inl h
      · exact .inr (Classical.byContradiction fun g => hk ⟨h, g⟩)
    clear hk
    obtain ⟨q, hq⟩ : ∃ q, q = idxS f.oneOf v.text 0 := ⟨_, rfl⟩
    unfold boundF otherF
    rw [← hq]
    generalize meaV v = m at h1
    cases m with
    | none =>
      have h1 : Sp (cx Tryz.prog mixed tyT_ok E) 121 [encV v] (.tup [i64 0, dB false]) := h1
      rw [boundO_none]
      by_cases hO : f.oneOf.length = 0 ∨ v.kind ≠ 3
      · rw [if_pos hO]
        refine SpH.body Tryz.func94 (by kernel_rfl) rfl (by kernel_rfl) (by kernel_rfl) (by kernel_rfl) ?_
        repeat' first
          | (refine facW_intro ?_; intro _)
          | refine Or.inl ?_
          | ((conv => whnf); first | (refine condW_dec ?_ ?_ <;> intro _ <;> try (exfalso; omega)) | refine condW_not ?_ | (refine condW_bool ?_ ?_ <;> intro _ <;> try (exfalso; omega)) | (refine nbC_t (fun _ => ?_) ?_) | (refine nbC_f ?_ (fun _ => ?_)))
          | refine And.intro (by first | omega | (simp only [Int.toNat_natCast] at *; omega) | (simp only [Nat.reduceAdd, Int.cast_ofNat_Int, true_and, and_true]; omega) | kernel_rfl) ?_
          | refine RegW.run ?_
          | refine ⟨_, h1, ?_⟩
          | fail
        all_goals first
          | (exfalso; omega)
          | exact ⟨[(3000, .cells [.own 72 2 0 (l ++ ([] ++ [])).length])], [(72, 95, (l ++ ([] ++ [])).length, rowQ (l ++ ([] ++ [])))], rfl, ⟨[(72, some 2000)], ⟨by kernel_rfl, by kernel_rfl, by kernel_rfl, by kernel_rfl, by kernel_rfl, by kernel_rfl, by kernel_rfl⟩, (by repeat' first | (first | exact Dle.of_eq (by simp) | (simp; done)) | exact trivial | exact rfl | kernel_rfl | exact Dle.of_eq rfl | exact MLe.of_eq rfl | exact Dle.i (by omega) | exact Dle.i (by simp only [Int.toNat_natCast] at *; omega) | exact Dle.nil | exact Dle.rc Dle.nil | exact Option.some_ne_none _ | exact Or.inl rfl | exact Or.inr trivial | omega | (simp only [Int.toNat_natCast] at *; omega) | (intro _ _ _ _; exact Dle.of_eq rfl) | (intro i j hi hj; exact Dle.of_eq (by simp)) | refine And.intro ?_ ?_)⟩, rfl⟩
          | trace_state
      · rw [if_neg hO]
        have ha := add_2000_72 E l (by omega) r 5
        refine SpH.body Tryz.func94 (by kernel_rfl) rfl (by kernel_rfl) (by kernel_rfl) (by kernel_rfl) ?_
        repeat' first
          | (refine facW_intro ?_; intro _)
          | refine Or.inl ?_
          | ((conv => whnf); first | (refine condW_dec ?_ ?_ <;> intro _ <;> try (exfalso; omega)) | refine condW_not ?_ | (refine condW_bool ?_ ?_ <;> intro _ <;> try (exfalso; omega)) | (refine nbC_t (fun _ => ?_) ?_) | (refine nbC_f ?_ (fun _ => ?_)))
          | refine And.intro (by first | omega | (simp only [Int.toNat_natCast] at *; omega) | (simp only [Nat.reduceAdd, Int.cast_ofNat_Int, true_and, and_true]; omega) | kernel_rfl) ?_
          | refine RegW.run ?_
          | refine ⟨_, h1, ?_⟩
          | fail
        all_goals try (exfalso; omega)
        all_goals
          refine ⟨Nat, fun k => [(61, i64 k)], fun k => [], [5, 6, 3000, 2000], fun k => [], fun k => k ≤ f.oneOf.length ∧ q = idxS f.oneOf v.text k, fun k => f.oneOf.length - k, ⟨0, ⟨by omega, hq⟩, ⟨[], ⟨by kernel_rfl, by kernel_rfl, by kernel_rfl, by kernel_rfl, by kernel_rfl, by kernel_rfl, by kernel_rfl⟩, (by repeat' first | exact trivial | exact rfl | kernel_rfl | exact Dle.of_eq rfl | exact MLe.of_eq rfl | exact Dle.i (by omega) | exact Dle.i (by simp only [Int.toNat_natCast] at *; omega) | exact Dle.nil | exact Dle.rc Dle.nil | exact Option.some_ne_none _ | exact Or.inl rfl | exact Or.inr trivial | omega | (simp only [Int.toNat_natCast] at *; omega) | (intro _ _ _ _; exact Dle.of_eq rfl) | refine And.intro ?_ ?_)⟩⟩, fun k hk => ?_⟩
          obtain ⟨hk9, hK⟩ := hk
          by_cases hlt : k < f.oneOf.length
          · by_cases hx : v.text = f.oneOf.getD k ⟨#[]⟩
            · have hx' : f.oneOf.getD ((k : Int)).toNat ⟨#[]⟩ = v.text := hx.symm
              rw [idxS_at hlt hx] at hK
              have e : (if 0 ≤ q then ([] : List Flt) else [(r, 5)]) = [] := if_pos (by omega)
              repeat' first
                | (refine facW_intro ?_; intro _)
                | refine Or.inl ?_
                | ((conv => whnf); first | (refine condW_dec ?_ ?_ <;> intro _ <;> try (exfalso; omega)) | refine condW_not ?_ | (refine condW_bool ?_ ?_ <;> intro _ <;> try (exfalso; omega)) | (refine nbC_t (fun _ => ?_) ?_) | (refine nbC_f ?_ (fun _ => ?_)))
                | refine And.intro (by first | omega | (simp only [Int.toNat_natCast] at *; omega) | (simp only [Nat.reduceAdd, Int.cast_ofNat_Int, true_and, and_true]; omega) | kernel_rfl) ?_
                | refine RegW.run ?_
                | fail
              all_goals first
                | (exfalso; exact absurd hx' (by assumption))
                | exact ⟨[(3000, .cells [.own 72 2 0 (l ++ ([] ++ (if 0 ≤ q then ([] : List Flt) else [(r, 5)]))).length])], [(72, 95, (l ++ ([] ++ (if 0 ≤ q then ([] : List Flt) else [(r, 5)]))).length, rowQ (l ++ ([] ++ (if 0 ≤ q then ([] : List Flt) else [(r, 5)]))))], rfl, ⟨[(72, some 2000)], ⟨by kernel_rfl, by kernel_rfl, by kernel_rfl, by kernel_rfl, by kernel_rfl, by kernel_rfl, by kernel_rfl⟩, (by repeat' first | (first | exact Dle.of_eq (by rw [e]; simp) | (rw [e]; simp; done)) | exact trivial | exact rfl | kernel_rfl | exact Dle.of_eq rfl | exact MLe.of_eq rfl | exact Dle.i (by omega) | exact Dle.i (by simp only [Int.toNat_natCast] at *; omega) | exact Dle.nil | exact Dle.rc Dle.nil | exact Option.some_ne_none _ | exact Or.inl rfl | exact Or.inr trivial | omega | (simp only [Int.toNat_natCast] at *; omega) | (intro _ _ _ _; exact Dle.of_eq rfl) | (intro i j hi hj; exact Dle.of_eq (by rw [e]; simp)) | refine And.intro ?_ ?_)⟩, rfl⟩
                | trace_state
            · have hx' : ¬ f.oneOf.getD ((k : Int)).toNat ⟨#[]⟩ = v.text := fun h => hx h.symm
              rw [idxS_next hlt hx] at hK
              repeat' first
                | (refine facW_intro ?_; intro _)
                | refine Or.inl ?_
                | ((conv => whnf); first | (refine condW_dec ?_ ?_ <;> intro _ <;> try (exfalso; omega)) | refine condW_not ?_ | (refine condW_bool ?_ ?_ <;> intro _ <;> try (exfalso; omega)) | (refine nbC_t (fun _ => ?_) ?_) | (refine nbC_f ?_ (fun _ => ?_)))
                | refine And.intro (by first | omega | (simp only [Int.toNat_natCast] at *; omega) | (simp only [Nat.reduceAdd, Int.cast_ofNat_Int, true_and, and_true]; omega) | kernel_rfl) ?_
                | refine RegW.run ?_
                | fail
              all_goals first
                | exact ⟨k + 1, ⟨by omega, hK⟩, ⟨[], ⟨by kernel_rfl, by kernel_rfl, by kernel_rfl, by kernel_rfl, by kernel_rfl, by kernel_rfl, by kernel_rfl⟩, (by repeat' first | exact trivial | exact rfl | kernel_rfl | exact Dle.of_eq rfl | exact MLe.of_eq rfl | exact Dle.i (by omega) | exact Dle.i (by simp only [Int.toNat_natCast] at *; omega) | exact Dle.nil | exact Dle.rc Dle.nil | exact Option.some_ne_none _ | exact Or.inl rfl | exact Or.inr trivial | omega | (simp only [Int.toNat_natCast] at *; omega) | (intro _ _ _ _; exact Dle.of_eq rfl) | refine And.intro ?_ ?_)⟩, by first | omega | (dsimp only; omega)⟩
                | (exfalso; exact hx' (by assumption))
                | trace_state
          · rw [idxS_end hlt] at hK
            have e : (if 0 ≤ q then ([] : List Flt) else [(r, 5)]) = [(r, 5)] := if_neg (by omega)
            repeat' first
              | refine Or.inr ⟨_, _, _, ha, by kernel_rfl, (by repeat' first | exact trivial | exact rfl | kernel_rfl | exact Dle.of_eq rfl | exact MLe.of_eq rfl | exact Dle.i (by omega) | exact Dle.i (by simp only [Int.toNat_natCast] at *; omega) | exact Dle.nil | exact Dle.rc Dle.nil | exact Option.some_ne_none _ | exact Or.inl rfl | exact Or.inr trivial | omega | (simp only [Int.toNat_natCast] at *; omega) | (intro _ _ _ _; exact Dle.of_eq rfl) | refine And.intro ?_ ?_), ?_⟩
              | (refine facW_intro ?_; intro _)
              | refine Or.inl ?_
              | ((conv => whnf); first | (refine condW_dec ?_ ?_ <;> intro _ <;> try (exfalso; omega)) | refine condW_not ?_ | (refine condW_bool ?_ ?_ <;> intro _ <;> try (exfalso; omega)) | (refine nbC_t (fun _ => ?_) ?_) | (refine nbC_f ?_ (fun _ => ?_)))
              | refine And.intro (by first | omega | (simp only [Int.toNat_natCast] at *; omega) | (simp only [Nat.reduceAdd, Int.cast_ofNat_Int, true_and, and_true]; omega) | kernel_rfl) ?_
              | refine RegW.run ?_
              | fail
            all_goals first
              | exact ⟨[(3000, .cells [.own 72 2 0 (l ++ ([] ++ (if 0 ≤ q then ([] : List Flt) else [(r, 5)]))).length])], [(72, 95, (l ++ ([] ++ (if 0 ≤ q then ([] : List Flt) else [(r, 5)]))).length, rowQ (l ++ ([] ++ (if 0 ≤ q then ([] : List Flt) else [(r, 5)]))))], rfl, ⟨[(72, some 72)], ⟨by kernel_rfl, by kernel_rfl, by kernel_rfl, by kernel_rfl, by kernel_rfl, by kernel_rfl, by kernel_rfl⟩, (by repeat' first | (first | exact Dle.of_eq (by rw [e]; simp) | (rw [e]; simp; done)) | exact trivial | exact rfl | kernel_rfl | exact Dle.of_eq rfl | exact MLe.of_eq rfl | exact Dle.i (by omega) | exact Dle.i (by simp only [Int.toNat_natCast] at *; omega) | exact Dle.nil | exact Dle.rc Dle.nil | exact Option.some_ne_none _ | exact Or.inl rfl | exact Or.inr trivial | omega | (simp only [Int.toNat_natCast] at *; omega) | (intro _ _ _ _; exact Dle.of_eq rfl) | (intro i j hi hj; exact Dle.of_eq (by rw [e]; simp)) | refine And.intro ?_ ?_)⟩, rfl⟩
              | trace_state
    | some n =>
      have h1 : Sp (cx Tryz.prog mixed tyT_ok E) 121 [encV v] (.tup [i64 n, dB true]) := h1
      by_cases hb : f.bounded = true
      · by_cases hlo : n < f.lo
        · rw [boundO_low hb hlo]
          have h2 := add_2000_41 E l (by omega) r 3
          by_cases hO : f.oneOf.length = 0 ∨ v.kind ≠ 3
          · rw [if_pos hO]
            refine SpH.body Tryz.func94 (by kernel_rfl) rfl (by kernel_rfl) (by kernel_rfl) (by kernel_rfl) ?_
            repeat' first
              | refine Or.inr ⟨_, _, _, h2, by kernel_rfl, (by repeat' first | exact trivial | exact rfl | kernel_rfl | exact Dle.of_eq rfl | exact MLe.of_eq rfl | exact Dle.i (by omega) | exact Dle.i (by simp only [Int.toNat_natCast] at *; omega) | exact Dle.nil | exact Dle.rc Dle.nil | exact Option.some_ne_none _ | exact Or.inl rfl | exact Or.inr trivial | omega | (simp only [Int.toNat_natCast] at *; omega) | (intro _ _ _ _; exact Dle.of_eq rfl) | refine And.intro ?_ ?_), ?_⟩
              | (refine facW_intro ?_; intro _)
              | refine Or.inl ?_
              | ((conv => whnf); first | (refine condW_dec ?_ ?_ <;> intro _ <;> try (exfalso; omega)) | refine condW_not ?_ | (refine condW_bool ?_ ?_ <;> intro _ <;> try (exfalso; omega)) | (refine nbC_t (fun _ => ?_) ?_) | (refine nbC_f ?_ (fun _ => ?_)))
              | refine And.intro (by first | omega | (simp only [Int.toNat_natCast] at *; omega) | (simp only [Nat.reduceAdd, Int.cast_ofNat_Int, true_and, and_true]; omega) | kernel_rfl) ?_
              | refine RegW.run ?_
              | refine ⟨_, h1, ?_⟩
              | fail
            all_goals first
              | (exfalso; omega)
              | (exfalso; exact absurd (hb.symm.trans (show f.bounded = false by assumption)) (by decide))
              | exact ⟨[(3000, .cells [.own 72 2 0 (l ++ ([(r, 3)] ++ [])).length])], [(72, 95, (l ++ ([(r, 3)] ++ [])).length, rowQ (l ++ ([(r, 3)] ++ [])))], rfl, ⟨[(72, some 41)], ⟨by kernel_rfl, by kernel_rfl, by kernel_rfl, by kernel_rfl, by kernel_rfl, by kernel_rfl, by kernel_rfl⟩, (by repeat' first | (first | exact Dle.of_eq (by simp) | (simp; done)) | exact trivial | exact rfl | kernel_rfl | exact Dle.of_eq rfl | exact MLe.of_eq rfl | exact Dle.i (by omega) | exact Dle.i (by simp only [Int.toNat_natCast] at *; omega) | exact Dle.nil | exact Dle.rc Dle.nil | exact Option.some_ne_none _ | exact Or.inl rfl | exact Or.inr trivial | omega | (simp only [Int.toNat_natCast] at *; omega) | (intro _ _ _ _; exact Dle.of_eq rfl) | (intro i j hi hj; exact Dle.of_eq (by simp)) | refine And.intro ?_ ?_)⟩, rfl⟩
              | trace_state
          · rw [if_neg hO]
            have ha := add_41_72 E (l ++ [(r, 3)]) (by simp; omega) r 5
            refine SpH.body Tryz.func94 (by kernel_rfl) rfl (by kernel_rfl) (by kernel_rfl) (by kernel_rfl) ?_
            repeat' first
              | refine Or.inr ⟨_, _, _, h2, by kernel_rfl, (by repeat' first | exact trivial | exact rfl | kernel_rfl | exact Dle.of_eq rfl | exact MLe.of_eq rfl | exact Dle.i (by omega) | exact Dle.i (by simp only [Int.toNat_natCast] at *; omega) | exact Dle.nil | exact Dle.rc Dle.nil | exact Option.some_ne_none _ | exact Or.inl rfl | exact Or.inr trivial | omega | (simp only [Int.toNat_natCast] at *; omega) | (intro _ _ _ _; exact Dle.of_eq rfl) | refine And.intro ?_ ?_), ?_⟩
              | (refine facW_intro ?_; intro _)
              | refine Or.inl ?_
              | ((conv => whnf); first | (refine condW_dec ?_ ?_ <;> intro _ <;> try (exfalso; omega)) | refine condW_not ?_ | (refine condW_bool ?_ ?_ <;> intro _ <;> try (exfalso; omega)) | (refine nbC_t (fun _ => ?_) ?_) | (refine nbC_f ?_ (fun _ => ?_)))
              | refine And.intro (by first | omega | (simp only [Int.toNat_natCast] at *; omega) | (simp only [Nat.reduceAdd, Int.cast_ofNat_Int, true_and, and_true]; omega) | kernel_rfl) ?_
              | refine RegW.run ?_
              | refine ⟨_, h1, ?_⟩
              | fail
            all_goals try (exfalso; omega)
            all_goals try (exfalso; exact absurd (hb.symm.trans (show f.bounded = false by assumption)) (by decide))
            all_goals
              refine ⟨Nat, fun k => [(61, i64 k)], fun k => [], [5, 6, 3000, 41], fun k => [], fun k => k ≤ f.oneOf.length ∧ q = idxS f.oneOf v.text k, fun k => f.oneOf.length - k, ⟨0, ⟨by omega, hq⟩, ⟨[], ⟨by kernel_rfl, by kernel_rfl, by kernel_rfl, by kernel_rfl, by kernel_rfl, by kernel_rfl, by kernel_rfl⟩, (by repeat' first | exact trivial | exact rfl | kernel_rfl | exact Dle.of_eq rfl | exact MLe.of_eq rfl | exact Dle.i (by omega) | exact Dle.i (by simp only [Int.toNat_natCast] at *; omega) | exact Dle.nil | exact Dle.rc Dle.nil | exact Option.some_ne_none _ | exact Or.inl rfl | exact Or.inr trivial | omega | (simp only [Int.toNat_natCast] at *; omega) | (intro _ _ _ _; exact Dle.of_eq rfl) | refine And.intro ?_ ?_)⟩⟩, fun k hk => ?_⟩
              obtain ⟨hk9, hK⟩ := hk
              by_cases hlt : k < f.oneOf.length
              · by_cases hx : v.text = f.oneOf.getD k ⟨#[]⟩
                · have hx' : f.oneOf.getD ((k : Int)).toNat ⟨#[]⟩ = v.text := hx.symm
                  rw [idxS_at hlt hx] at hK
                  have e : (if 0 ≤ q then ([] : List Flt) else [(r, 5)]) = [] := if_pos (by omega)
                  repeat' first
                    | (refine facW_intro ?_; intro _)
                    | refine Or.inl ?_
                    | ((conv => whnf); first | (refine condW_dec ?_ ?_ <;> intro _ <;> try (exfalso; omega)) | refine condW_not ?_ | (refine condW_bool ?_ ?_ <;> intro _ <;> try (exfalso; omega)) | (refine nbC_t (fun _ => ?_) ?_) | (refine nbC_f ?_ (fun _ => ?_)))
                    | refine And.intro (by first | omega | (simp only [Int.toNat_natCast] at *; omega) | (simp only [Nat.reduceAdd, Int.cast_ofNat_Int, true_and, and_true]; omega) | kernel_rfl) ?_
                    | refine RegW.run ?_
                    | fail
                  all_goals first
                    | (exfalso; exact absurd hx' (by assumption))
                    | exact ⟨[(3000, .cells [.own 72 2 0 (l ++ ([(r, 3)] ++ (if 0 ≤ q then ([] : List Flt) else [(r, 5)]))).length])], [(72, 95, (l ++ ([(r, 3)] ++ (if 0 ≤ q then ([] : List Flt) else [(r, 5)]))).length, rowQ (l ++ ([(r, 3)] ++ (if 0 ≤ q then ([] : List Flt) else [(r, 5)]))))], rfl, ⟨[(72, some 41)], ⟨by kernel_rfl, by kernel_rfl, by kernel_rfl, by kernel_rfl, by kernel_rfl, by kernel_rfl, by kernel_rfl⟩, (by repeat' first | (first | exact Dle.of_eq (by rw [e]; simp) | (rw [e]; simp; done)) | exact trivial | exact rfl | kernel_rfl | exact Dle.of_eq rfl | exact MLe.of_eq rfl | exact Dle.i (by omega) | exact Dle.i (by simp only [Int.toNat_natCast] at *; omega) | exact Dle.nil | exact Dle.rc Dle.nil | exact Option.some_ne_none _ | exact Or.inl rfl | exact Or.inr trivial | omega | (simp only [Int.toNat_natCast] at *; omega) | (intro _ _ _ _; exact Dle.of_eq rfl) | (intro i j hi hj; exact Dle.of_eq (by rw [e]; simp)) | refine And.intro ?_ ?_)⟩, rfl⟩
                    | trace_state
                · have hx' : ¬ f.oneOf.getD ((k : Int)).toNat ⟨#[]⟩ = v.text := fun h => hx h.symm
                  rw [idxS_next hlt hx] at hK
                  repeat' first
                    | (refine facW_intro ?_; intro _)
                    | refine Or.inl ?_
                    | ((conv => whnf); first | (refine condW_dec ?_ ?_ <;> intro _ <;> try (exfalso; omega)) | refine condW_not ?_ | (refine condW_bool ?_ ?_ <;> intro _ <;> try (exfalso; omega)) | (refine nbC_t (fun _ => ?_) ?_) | (refine nbC_f ?_ (fun _ => ?_)))
                    | refine And.intro (by first | omega | (simp only [Int.toNat_natCast] at *; omega) | (simp only [Nat.reduceAdd, Int.cast_ofNat_Int, true_and, and_true]; omega) | kernel_rfl) ?_
                    | refine RegW.run ?_
                    | fail
                  all_goals first
                    | exact ⟨k + 1, ⟨by omega, hK⟩, ⟨[], ⟨by kernel_rfl, by kernel_rfl, by kernel_rfl, by kernel_rfl, by kernel_rfl, by kernel_rfl, by kernel_rfl⟩, (by repeat' first | exact trivial | exact rfl | kernel_rfl | exact Dle.of_eq rfl | exact MLe.of_eq rfl | exact Dle.i (by omega) | exact Dle.i (by simp only [Int.toNat_natCast] at *; omega) | exact Dle.nil | exact Dle.rc Dle.nil | exact Option.some_ne_none _ | exact Or.inl rfl | exact Or.inr trivial | omega | (simp only [Int.toNat_natCast] at *; omega) | (intro _ _ _ _; exact Dle.of_eq rfl) | refine And.intro ?_ ?_)⟩, by first | omega | (dsimp only; omega)⟩
                    | (exfalso; exact hx' (by assumption))
                    | trace_state
              · rw [idxS_end hlt] at hK
                have e : (if 0 ≤ q then ([] : List Flt) else [(r, 5)]) = [(r, 5)] := if_neg (by omega)
                repeat' first
                  | refine Or.inr ⟨_, _, _, ha, by kernel_rfl, (by repeat' first | exact trivial | exact rfl | kernel_rfl | exact Dle.of_eq rfl | exact MLe.of_eq rfl | exact Dle.i (by omega) | exact Dle.i (by simp only [Int.toNat_natCast] at *; omega) | exact Dle.nil | exact Dle.rc Dle.nil | exact Option.some_ne_none _ | exact Or.inl rfl | exact Or.inr trivial | omega | (simp only [Int.toNat_natCast] at *; omega) | (intro _ _ _ _; exact Dle.of_eq rfl) | refine And.intro ?_ ?_), ?_⟩
                  | (refine facW_intro ?_; intro _)
                  | refine Or.inl ?_
                  | ((conv => whnf); first | (refine condW_dec ?_ ?_ <;> intro _ <;> try (exfalso; omega)) | refine condW_not ?_ | (refine condW_bool ?_ ?_ <;> intro _ <;> try (exfalso; omega)) | (refine nbC_t (fun _ => ?_) ?_) | (refine nbC_f ?_ (fun _ => ?_)))
                  | refine And.intro (by first | omega | (simp only [Int.toNat_natCast] at *; omega) | (simp only [Nat.reduceAdd, Int.cast_ofNat_Int, true_and, and_true]; omega) | kernel_rfl) ?_
                  | refine RegW.run ?_
                  | fail
                all_goals first
                  | exact ⟨[(3000, .cells [.own 72 2 0 (l ++ ([(r, 3)] ++ (if 0 ≤ q then ([] : List Flt) else [(r, 5)]))).length])], [(72, 95, (l ++ ([(r, 3)] ++ (if 0 ≤ q then ([] : List Flt) else [(r, 5)]))).length, rowQ (l ++ ([(r, 3)] ++ (if 0 ≤ q then ([] : List Flt) else [(r, 5)]))))], rfl, ⟨[(72, some 72)], ⟨by kernel_rfl, by kernel_rfl, by kernel_rfl, by kernel_rfl, by kernel_rfl, by kernel_rfl, by kernel_rfl⟩, (by repeat' first | (first | exact Dle.of_eq (by rw [e]; simp) | (rw [e]; simp; done)) | exact trivial | exact rfl | kernel_rfl | exact Dle.of_eq rfl | exact MLe.of_eq rfl | exact Dle.i (by omega) | exact Dle.i (by simp only [Int.toNat_natCast] at *; omega) | exact Dle.nil | exact Dle.rc Dle.nil | exact Option.some_ne_none _ | exact Or.inl rfl | exact Or.inr trivial | omega | (simp only [Int.toNat_natCast] at *; omega) | (intro _ _ _ _; exact Dle.of_eq rfl) | (intro i j hi hj; exact Dle.of_eq (by rw [e]; simp)) | refine And.intro ?_ ?_)⟩, rfl⟩
                  | trace_state
        · by_cases hhi : f.hi < n
          · rw [boundO_high hb hlo hhi]
            have h2 := add_2000_48 E l (by omega) r 4
            by_cases hO : f.oneOf.length = 0 ∨ v.kind ≠ 3
            · rw [if_pos hO]
              refine SpH.body Tryz.func94 (by kernel_rfl) rfl (by kernel_rfl) (by kernel_rfl) (by kernel_rfl) ?_
              repeat' first
                | refine Or.inr ⟨_, _, _, h2, by kernel_rfl, (by repeat' first | exact trivial | exact rfl | kernel_rfl | exact Dle.of_eq rfl | exact MLe.of_eq rfl | exact Dle.i (by omega) | exact Dle.i (by simp only [Int.toNat_natCast] at *; omega) | exact Dle.nil | exact Dle.rc Dle.nil | exact Option.some_ne_none _ | exact Or.inl rfl | exact Or.inr trivial | omega | (simp only [Int.toNat_natCast] at *; omega) | (intro _ _ _ _; exact Dle.of_eq rfl) | refine And.intro ?_ ?_), ?_⟩
                | (refine facW_intro ?_; intro _)
                | refine Or.inl ?_
                | ((conv => whnf); first | (refine condW_dec ?_ ?_ <;> intro _ <;> try (exfalso; omega)) | refine condW_not ?_ | (refine condW_bool ?_ ?_ <;> intro _ <;> try (exfalso; omega)) | (refine nbC_t (fun _ => ?_) ?_) | (refine nbC_f ?_ (fun _ => ?_)))
                | refine And.intro (by first | omega | (simp only [Int.toNat_natCast] at *; omega) | (simp only [Nat.reduceAdd, Int.cast_ofNat_Int, true_and, and_true]; omega) | kernel_rfl) ?_
                | refine RegW.run ?_
                | refine ⟨_, h1, ?_⟩
                | fail
              all_goals first
                | (exfalso; omega)
                | (exfalso; exact absurd (hb.symm.trans (show f.bounded = false by assumption)) (by decide))
                | exact ⟨[(3000, .cells [.own 72 2 0 (l ++ ([(r, 4)] ++ [])).length])], [(72, 95, (l ++ ([(r, 4)] ++ [])).length, rowQ (l ++ ([(r, 4)] ++ [])))], rfl, ⟨[(72, some 48)], ⟨by kernel_rfl, by kernel_rfl, by kernel_rfl, by kernel_rfl, by kernel_rfl, by kernel_rfl, by kernel_rfl⟩, (by repeat' first | (first | exact Dle.of_eq (by simp) | (simp; done)) | exact trivial | exact rfl | kernel_rfl | exact Dle.of_eq rfl | exact MLe.of_eq rfl | exact Dle.i (by omega) | exact Dle.i (by simp only [Int.toNat_natCast] at *; omega) | exact Dle.nil | exact Dle.rc Dle.nil | exact Option.some_ne_none _ | exact Or.inl rfl | exact Or.inr trivial | omega | (simp only [Int.toNat_natCast] at *; omega) | (intro _ _ _ _; exact Dle.of_eq rfl) | (intro i j hi hj; exact Dle.of_eq (by simp)) | refine And.intro ?_ ?_)⟩, rfl⟩
                | trace_state
            · rw [if_neg hO]
              have ha := add_48_72 E (l ++ [(r, 4)]) (by simp; omega) r 5
              refine SpH.body Tryz.func94 (by kernel_rfl) rfl (by kernel_rfl) (by kernel_rfl) (by kernel_rfl) ?_
              repeat' first
                | refine Or.inr ⟨_, _, _, h2, by kernel_rfl, (by repeat' first | exact trivial | exact rfl | kernel_rfl | exact Dle.of_eq rfl | exact MLe.of_eq rfl | exact Dle.i (by omega) | exact Dle.i (by simp only [Int.toNat_natCast] at *; omega) | exact Dle.nil | exact Dle.rc Dle.nil | exact Option.some_ne_none _ | exact Or.inl rfl | exact Or.inr trivial | omega | (simp only [Int.toNat_natCast] at *; omega) | (intro _ _ _ _; exact Dle.of_eq rfl) | refine And.intro ?_ ?_), ?_⟩
                | (refine facW_intro ?_; intro _)
                | refine Or.inl ?_
                | ((conv => whnf); first | (refine condW_dec ?_ ?_ <;> intro _ <;> try (exfalso; omega)) | refine condW_not ?_ | (refine condW_bool ?_ ?_ <;> intro _ <;> try (exfalso; omega)) | (refine nbC_t (fun _ => ?_) ?_) | (refine nbC_f ?_ (fun _ => ?_)))
                | refine And.intro (by first | omega | (simp only [Int.toNat_natCast] at *; omega) | (simp only [Nat.reduceAdd, Int.cast_ofNat_Int, true_and, and_true]; omega) | kernel_rfl) ?_
                | refine RegW.run ?_
                | refine ⟨_, h1, ?_⟩
                | fail
              all_goals try (exfalso; omega)
              all_goals try (exfalso; exact absurd (hb.symm.trans (show f.bounded = false by assumption)) (by decide))
              all_goals
                refine ⟨Nat, fun k => [(61, i64 k)], fun k => [], [5, 6, 3000, 48], fun k => [], fun k => k ≤ f.oneOf.length ∧ q = idxS f.oneOf v.text k, fun k => f.oneOf.length - k, ⟨0, ⟨by omega, hq⟩, ⟨[], ⟨by kernel_rfl, by kernel_rfl, by kernel_rfl, by kernel_rfl, by kernel_rfl, by kernel_rfl, by kernel_rfl⟩, (by repeat' first | exact trivial | exact rfl | kernel_rfl | exact Dle.of_eq rfl | exact MLe.of_eq rfl | exact Dle.i (by omega) | exact Dle.i (by simp only [Int.toNat_natCast] at *; omega) | exact Dle.nil | exact Dle.rc Dle.nil | exact Option.some_ne_none _ | exact Or.inl rfl | exact Or.inr trivial | omega | (simp only [Int.toNat_natCast] at *; omega) | (intro _ _ _ _; exact Dle.of_eq rfl) | refine And.intro ?_ ?_)⟩⟩, fun k hk => ?_⟩
                obtain ⟨hk9, hK⟩ := hk
                by_cases hlt : k < f.oneOf.length
                · by_cases hx : v.text = f.oneOf.getD k ⟨#[]⟩
                  · have hx' : f.oneOf.getD ((k : Int)).toNat ⟨#[]⟩ = v.text := hx.symm
                    rw [idxS_at hlt hx] at hK
                    have e : (if 0 ≤ q then ([] : List Flt) else [(r, 5)]) = [] := if_pos (by omega)
                    repeat' first
                      | (refine facW_intro ?_; intro _)
                      | refine Or.inl ?_
                      | ((conv => whnf); first | (refine condW_dec ?_ ?_ <;> intro _ <;> try (exfalso; omega)) | refine condW_not ?_ | (refine condW_bool ?_ ?_ <;> intro _ <;> try (exfalso; omega)) | (refine nbC_t (fun _ => ?_) ?_) | (refine nbC_f ?_ (fun _ => ?_)))
                      | refine And.intro (by first | omega | (simp only [Int.toNat_natCast] at *; omega) | (simp only [Nat.reduceAdd, Int.cast_ofNat_Int, true_and, and_true]; omega) | kernel_rfl) ?_
                      | refine RegW.run ?_
                      | fail
                    all_goals first
                      | (exfalso; exact absurd hx' (by assumption))
                      | exact ⟨[(3000, .cells [.own 72 2 0 (l ++ ([(r, 4)] ++ (if 0 ≤ q then ([] : List Flt) else [(r, 5)]))).length])], [(72, 95, (l ++ ([(r, 4)] ++ (if 0 ≤ q then ([] : List Flt) else [(r, 5)]))).length, rowQ (l ++ ([(r, 4)] ++ (if 0 ≤ q then ([] : List Flt) else [(r, 5)]))))], rfl, ⟨[(72, some 48)], ⟨by kernel_rfl, by kernel_rfl, by kernel_rfl, by kernel_rfl, by kernel_rfl, by kernel_rfl, by kernel_rfl⟩, (by repeat' first | (first | exact Dle.of_eq (by rw [e]; simp) | (rw [e]; simp; done)) | exact trivial | exact rfl | kernel_rfl | exact Dle.of_eq rfl | exact MLe.of_eq rfl | exact Dle.i (by omega) | exact Dle.i (by simp only [Int.toNat_natCast] at *; omega) | exact Dle.nil | exact Dle.rc Dle.nil | exact Option.some_ne_none _ | exact Or.inl rfl | exact Or.inr trivial | omega | (simp only [Int.toNat_natCast] at *; omega) | (intro _ _ _ _; exact Dle.of_eq rfl) | (intro i j hi hj; exact Dle.of_eq (by rw [e]; simp)) | refine And.intro ?_ ?_)⟩, rfl⟩
                      | trace_state
                  · have hx' : ¬ f.oneOf.getD ((k : Int)).toNat ⟨#[]⟩ = v.text := fun h => hx h.symm
                    rw [idxS_next hlt hx] at hK
                    repeat' first
                      | (refine facW_intro ?_; intro _)
                      | refine Or.inl ?_
                      | ((conv => whnf); first | (refine condW_dec ?_ ?_ <;> intro _ <;> try (exfalso; omega)) | refine condW_not ?_ | (refine condW_bool ?_ ?_ <;> intro _ <;> try (exfalso; omega)) | (refine nbC_t (fun _ => ?_) ?_) | (refine nbC_f ?_ (fun _ => ?_)))
                      | refine And.intro (by first | omega | (simp only [Int.toNat_natCast] at *; omega) | (simp only [Nat.reduceAdd, Int.cast_ofNat_Int, true_and, and_true]; omega) | kernel_rfl) ?_
                      | refine RegW.run ?_
                      | fail
                    all_goals first
                      | exact ⟨k + 1, ⟨by omega, hK⟩, ⟨[], ⟨by kernel_rfl, by kernel_rfl, by kernel_rfl, by kernel_rfl, by kernel_rfl, by kernel_rfl, by kernel_rfl⟩, (by repeat' first | exact trivial | exact rfl | kernel_rfl | exact Dle.of_eq rfl | exact MLe.of_eq rfl | exact Dle.i (by omega) | exact Dle.i (by simp only [Int.toNat_natCast] at *; omega) | exact Dle.nil | exact Dle.rc Dle.nil | exact Option.some_ne_none _ | exact Or.inl rfl | exact Or.inr trivial | omega | (simp only [Int.toNat_natCast] at *; omega) | (intro _ _ _ _; exact Dle.of_eq rfl) | refine And.intro ?_ ?_)⟩, by first | omega | (dsimp only; omega)⟩
                      | (exfalso; exact hx' (by assumption))
                      | trace_state
                · rw [idxS_end hlt] at hK
                  have e : (if 0 ≤ q then ([] : List Flt) else [(r, 5)]) = [(r, 5)] := if_neg (by omega)
                  repeat' first
                    | refine Or.inr ⟨_, _, _, ha, by kernel_rfl, (by repeat' first | exact trivial | exact rfl | kernel_rfl | exact Dle.of_eq rfl | exact MLe.of_eq rfl | exact Dle.i (by omega) | exact Dle.i (by simp only [Int.toNat_natCast] at *; omega) | exact Dle.nil | exact Dle.rc Dle.nil | exact Option.some_ne_none _ | exact Or.inl rfl | exact Or.inr trivial | omega | (simp only [Int.toNat_natCast] at *; omega) | (intro _ _ _ _; exact Dle.of_eq rfl) | refine And.intro ?_ ?_), ?_⟩
                    | (refine facW_intro ?_; intro _)
                    | refine Or.inl ?_
                    | ((conv => whnf); first | (refine condW_dec ?_ ?_ <;> intro _ <;> try (exfalso; omega)) | refine condW_not ?_ | (refine condW_bool ?_ ?_ <;> intro _ <;> try (exfalso; omega)) | (refine nbC_t (fun _ => ?_) ?_) | (refine nbC_f ?_ (fun _ => ?_)))
                    | refine And.intro (by first | omega | (simp only [Int.toNat_natCast] at *; omega) | (simp only [Nat.reduceAdd, Int.cast_ofNat_Int, true_and, and_true]; omega) | kernel_rfl) ?_
                    | refine RegW.run ?_
                    | fail
                  all_goals first
                    | exact ⟨[(3000, .cells [.own 72 2 0 (l ++ ([(r, 4)] ++ (if 0 ≤ q then ([] : List Flt) else [(r, 5)]))).length])], [(72, 95, (l ++ ([(r, 4)] ++ (if 0 ≤ q then ([] : List Flt) else [(r, 5)]))).length, rowQ (l ++ ([(r, 4)] ++ (if 0 ≤ q then ([] : List Flt) else [(r, 5)]))))], rfl, ⟨[(72, some 72)], ⟨by kernel_rfl, by kernel_rfl, by kernel_rfl, by kernel_rfl, by kernel_rfl, by kernel_rfl, by kernel_rfl⟩, (by repeat' first | (first | exact Dle.of_eq (by rw [e]; simp) | (rw [e]; simp; done)) | exact trivial | exact rfl | kernel_rfl | exact Dle.of_eq rfl | exact MLe.of_eq rfl | exact Dle.i (by omega) | exact Dle.i (by simp only [Int.toNat_natCast] at *; omega) | exact Dle.nil | exact Dle.rc Dle.nil | exact Option.some_ne_none _ | exact Or.inl rfl | exact Or.inr trivial | omega | (simp only [Int.toNat_natCast] at *; omega) | (intro _ _ _ _; exact Dle.of_eq rfl) | (intro i j hi hj; exact Dle.of_eq (by rw [e]; simp)) | refine And.intro ?_ ?_)⟩, rfl⟩
                    | trace_state
          · rw [boundO_in hb hlo hhi]
            by_cases hO : f.oneOf.length = 0 ∨ v.kind ≠ 3
            · rw [if_pos hO]
              refine SpH.body Tryz.func94 (by kernel_rfl) rfl (by kernel_rfl) (by kernel_rfl) (by kernel_rfl) ?_
              repeat' first
                | (refine facW_intro ?_; intro _)
                | refine Or.inl ?_
                | ((conv => whnf); first | (refine condW_dec ?_ ?_ <;> intro _ <;> try (exfalso; omega)) | refine condW_not ?_ | (refine condW_bool ?_ ?_ <;> intro _ <;> try (exfalso; omega)) | (refine nbC_t (fun _ => ?_) ?_) | (refine nbC_f ?_ (fun _ => ?_)))
                | refine And.intro (by first | omega | (simp only [Int.toNat_natCast] at *; omega) | (simp only [Nat.reduceAdd, Int.cast_ofNat_Int, true_and, and_true]; omega) | kernel_rfl) ?_
                | refine RegW.run ?_
                | refine ⟨_, h1, ?_⟩
                | fail
              all_goals first
                | (exfalso; omega)
                | (exfalso; exact absurd (hb.symm.trans (show f.bounded = false by assumption)) (by decide))
                | exact ⟨[(3000, .cells [.own 72 2 0 (l ++ ([] ++ [])).length])], [(72, 95, (l ++ ([] ++ [])).length, rowQ (l ++ ([] ++ [])))], rfl, ⟨[(72, some 2000)], ⟨by kernel_rfl, by kernel_rfl, by kernel_rfl, by kernel_rfl, by kernel_rfl, by kernel_rfl, by kernel_rfl⟩, (by repeat' first | (first | exact Dle.of_eq (by simp) | (simp; done)) | exact trivial | exact rfl | kernel_rfl | exact Dle.of_eq rfl | exact MLe.of_eq rfl | exact Dle.i (by omega) | exact Dle.i (by simp only [Int.toNat_natCast] at *; omega) | exact Dle.nil | exact Dle.rc Dle.nil | exact Option.some_ne_none _ | exact Or.inl rfl | exact Or.inr trivial | omega | (simp only [Int.toNat_natCast] at *; omega) | (intro _ _ _ _; exact Dle.of_eq rfl) | (intro i j hi hj; exact Dle.of_eq (by simp)) | refine And.intro ?_ ?_)⟩, rfl⟩
                | trace_state
            · rw [if_neg hO]
              have ha := add_2000_72 E l (by omega) r 5
              refine SpH.body Tryz.func94 (by kernel_rfl) rfl (by kernel_rfl) (by kernel_rfl) (by kernel_rfl) ?_
              repeat' first
                | (refine facW_intro ?_; intro _)
                | refine Or.inl ?_
                | ((conv => whnf); first | (refine condW_dec ?_ ?_ <;> intro _ <;> try (exfalso; omega)) | refine condW_not ?_ | (refine condW_bool ?_ ?_ <;> intro _ <;> try (exfalso; omega)) | (refine nbC_t (fun _ => ?_) ?_) | (refine nbC_f ?_ (fun _ => ?_)))
                | refine And.intro (by first | omega | (simp only [Int.toNat_natCast] at *; omega) | (simp only [Nat.reduceAdd, Int.cast_ofNat_Int, true_and, and_true]; omega) | kernel_rfl) ?_
                | refine RegW.run ?_
                | refine ⟨_, h1, ?_⟩
                | fail
              all_goals try (exfalso; omega)
              all_goals try (exfalso; exact absurd (hb.symm.trans (show f.bounded = false by assumption)) (by decide))
              all_goals
                refine ⟨Nat, fun k => [(61, i64 k)], fun k => [], [5, 6, 3000, 2000], fun k => [], fun k => k ≤ f.oneOf.length ∧ q = idxS f.oneOf v.text k, fun k => f.oneOf.length - k, ⟨0, ⟨by omega, hq⟩, ⟨[], ⟨by kernel_rfl, by kernel_rfl, by kernel_rfl, by kernel_rfl, by kernel_rfl, by kernel_rfl, by kernel_rfl⟩, (by repeat' first | exact trivial | exact rfl | kernel_rfl | exact Dle.of_eq rfl | exact MLe.of_eq rfl | exact Dle.i (by omega) | exact Dle.i (by simp only [Int.toNat_natCast] at *; omega) | exact Dle.nil | exact Dle.rc Dle.nil | exact Option.some_ne_none _ | exact Or.inl rfl | exact Or.inr trivial | omega | (simp only [Int.toNat_natCast] at *; omega) | (intro _ _ _ _; exact Dle.of_eq rfl) | refine And.intro ?_ ?_)⟩⟩, fun k hk => ?_⟩
                obtain ⟨hk9, hK⟩ := hk
                by_cases hlt : k < f.oneOf.length
                · by_cases hx : v.text = f.oneOf.getD k ⟨#[]⟩
                  · have hx' : f.oneOf.getD ((k : Int)).toNat ⟨#[]⟩ = v.text := hx.symm
                    rw [idxS_at hlt hx] at hK
                    have e : (if 0 ≤ q then ([] : List Flt) else [(r, 5)]) = [] := if_pos (by omega)
                    repeat' first
                      | (refine facW_intro ?_; intro _)
                      | refine Or.inl ?_
                      | ((conv => whnf); first | (refine condW_dec ?_ ?_ <;> intro _ <;> try (exfalso; omega)) | refine condW_not ?_ | (refine condW_bool ?_ ?_ <;> intro _ <;> try (exfalso; omega)) | (refine nbC_t (fun _ => ?_) ?_) | (refine nbC_f ?_ (fun _ => ?_)))
                      | refine And.intro (by first | omega | (simp only [Int.toNat_natCast] at *; omega) | (simp only [Nat.reduceAdd, Int.cast_ofNat_Int, true_and, and_true]; omega) | kernel_rfl) ?_
                      | refine RegW.run ?_
                      | fail
                    all_goals first
                      | (exfalso; exact absurd hx' (by assumption))
                      | exact ⟨[(3000, .cells [.own 72 2 0 (l ++ ([] ++ (if 0 ≤ q then ([] : List Flt) else [(r, 5)]))).length])], [(72, 95, (l ++ ([] ++ (if 0 ≤ q then ([] : List Flt) else [(r, 5)]))).length, rowQ (l ++ ([] ++ (if 0 ≤ q then ([] : List Flt) else [(r, 5)]))))], rfl, ⟨[(72, some 2000)], ⟨by kernel_rfl, by kernel_rfl, by kernel_rfl, by kernel_rfl, by kernel_rfl, by kernel_rfl, by kernel_rfl⟩, (by repeat' first | (first | exact Dle.of_eq (by rw [e]; simp) | (rw [e]; simp; done)) | exact trivial | exact rfl | kernel_rfl | exact Dle.of_eq rfl | exact MLe.of_eq rfl | exact Dle.i (by omega) | exact Dle.i (by simp only [Int.toNat_natCast] at *; omega) | exact Dle.nil | exact Dle.rc Dle.nil | exact Option.some_ne_none _ | exact Or.inl rfl | exact Or.inr trivial | omega | (simp only [Int.toNat_natCast] at *; omega) | (intro _ _ _ _; exact Dle.of_eq rfl) | (intro i j hi hj; exact Dle.of_eq (by rw [e]; simp)) | refine And.intro ?_ ?_)⟩, rfl⟩
                      | trace_state
                  · have hx' : ¬ f.oneOf.getD ((k : Int)).toNat ⟨#[]⟩ = v.text := fun h => hx h.symm
                    rw [idxS_next hlt hx] at hK
                    repeat' first
                      | (refine facW_intro ?_; intro _)
                      | refine Or.inl ?_
                      | ((conv => whnf); first | (refine condW_dec ?_ ?_ <;> intro _ <;> try (exfalso; omega)) | refine condW_not ?_ | (refine condW_bool ?_ ?_ <;> intro _ <;> try (exfalso; omega)) | (refine nbC_t (fun _ => ?_) ?_) | (refine nbC_f ?_ (fun _ => ?_)))
                      | refine And.intro (by first | omega | (simp only [Int.toNat_natCast] at *; omega) | (simp only [Nat.reduceAdd, Int.cast_ofNat_Int, true_and, and_true]; omega) | kernel_rfl) ?_
                      | refine RegW.run ?_
                      | fail
                    all_goals first
                      | exact ⟨k + 1, ⟨by omega, hK⟩, ⟨[], ⟨by kernel_rfl, by kernel_rfl, by kernel_rfl, by kernel_rfl, by kernel_rfl, by kernel_rfl, by kernel_rfl⟩, (by repeat' first | exact trivial | exact rfl | kernel_rfl | exact Dle.of_eq rfl | exact MLe.of_eq rfl | exact Dle.i (by omega) | exact Dle.i (by simp only [Int.toNat_natCast] at *; omega) | exact Dle.nil | exact Dle.rc Dle.nil | exact Option.some_ne_none _ | exact Or.inl rfl | exact Or.inr trivial | omega | (simp only [Int.toNat_natCast] at *; omega) | (intro _ _ _ _; exact Dle.of_eq rfl) | refine And.intro ?_ ?_)⟩, by first | omega | (dsimp only; omega)⟩
                      | (exfalso; exact hx' (by assumption))
                      | trace_state
                · rw [idxS_end hlt] at hK
                  have e : (if 0 ≤ q then ([] : List Flt) else [(r, 5)]) = [(r, 5)] := if_neg (by omega)
                  repeat' first
                    | refine Or.inr ⟨_, _, _, ha, by kernel_rfl, (by repeat' first | exact trivial | exact rfl | kernel_rfl | exact Dle.of_eq rfl | exact MLe.of_eq rfl | exact Dle.i (by omega) | exact Dle.i (by simp only [Int.toNat_natCast] at *; omega) | exact Dle.nil | exact Dle.rc Dle.nil | exact Option.some_ne_none _ | exact Or.inl rfl | exact Or.inr trivial | omega | (simp only [Int.toNat_natCast] at *; omega) | (intro _ _ _ _; exact Dle.of_eq rfl) | refine And.intro ?_ ?_), ?_⟩
                    | (refine facW_intro ?_; intro _)
                    | refine Or.inl ?_
                    | ((conv => whnf); first | (refine condW_dec ?_ ?_ <;> intro _ <;> try (exfalso; omega)) | refine condW_not ?_ | (refine condW_bool ?_ ?_ <;> intro _ <;> try (exfalso; omega)) | (refine nbC_t (fun _ => ?_) ?_) | (refine nbC_f ?_ (fun _ => ?_)))
                    | refine And.intro (by first | omega | (simp only [Int.toNat_natCast] at *; omega) | (simp only [Nat.reduceAdd, Int.cast_ofNat_Int, true_and, and_true]; omega) | kernel_rfl) ?_
                    | refine RegW.run ?_
                    | fail
                  all_goals first
                    | exact ⟨[(3000, .cells [.own 72 2 0 (l ++ ([] ++ (if 0 ≤ q then ([] : List Flt) else [(r, 5)]))).length])], [(72, 95, (l ++ ([] ++ (if 0 ≤ q then ([] : List Flt) else [(r, 5)]))).length, rowQ (l ++ ([] ++ (if 0 ≤ q then ([] : List Flt) else [(r, 5)]))))], rfl, ⟨[(72, some 72)], ⟨by kernel_rfl, by kernel_rfl, by kernel_rfl, by kernel_rfl, by kernel_rfl, by kernel_rfl, by kernel_rfl⟩, (by repeat' first | (first | exact Dle.of_eq (by rw [e]; simp) | (rw [e]; simp; done)) | exact trivial | exact rfl | kernel_rfl | exact Dle.of_eq rfl | exact MLe.of_eq rfl | exact Dle.i (by omega) | exact Dle.i (by simp only [Int.toNat_natCast] at *; omega) | exact Dle.nil | exact Dle.rc Dle.nil | exact Option.some_ne_none _ | exact Or.inl rfl | exact Or.inr trivial | omega | (simp only [Int.toNat_natCast] at *; omega) | (intro _ _ _ _; exact Dle.of_eq rfl) | (intro i j hi hj; exact Dle.of_eq (by rw [e]; simp)) | refine And.intro ?_ ?_)⟩, rfl⟩
                    | trace_state
      · have hb : f.bounded = false := by simpa using hb
        rw [boundO_off hb]
        by_cases hO : f.oneOf.length = 0 ∨ v.kind ≠ 3
        · rw [if_pos hO]
          refine SpH.body Tryz.func94 (by kernel_rfl) rfl (by kernel_rfl) (by kernel_rfl) (by kernel_rfl) ?_
          repeat' first
            | (refine facW_intro ?_; intro _)
            | refine Or.inl ?_
            | ((conv => whnf); first | (refine condW_dec ?_ ?_ <;> intro _ <;> try (exfalso; omega)) | refine condW_not ?_ | (refine condW_bool ?_ ?_ <;> intro _ <;> try (exfalso; omega)) | (refine nbC_t (fun _ => ?_) ?_) | (refine nbC_f ?_ (fun _ => ?_)))
            | refine And.intro (by first | omega | (simp only [Int.toNat_natCast] at *; omega) | (simp only [Nat.reduceAdd, Int.cast_ofNat_Int, true_and, and_true]; omega) | kernel_rfl) ?_
            | refine RegW.run ?_
            | refine ⟨_, h1, ?_⟩
            | fail
          all_goals first
            | (exfalso; omega)
            | (exfalso; exact absurd (hb.symm.trans (show f.bounded = true by assumption)) (by decide))
            | exact ⟨[(3000, .cells [.own 72 2 0 (l ++ ([] ++ [])).length])], [(72, 95, (l ++ ([] ++ [])).length, rowQ (l ++ ([] ++ [])))], rfl, ⟨[(72, some 2000)], ⟨by kernel_rfl, by kernel_rfl, by kernel_rfl, by kernel_rfl, by kernel_rfl, by kernel_rfl, by kernel_rfl⟩, (by repeat' first | (first | exact Dle.of_eq (by simp) | (simp; done)) | exact trivial | exact rfl | kernel_rfl | exact Dle.of_eq rfl | exact MLe.of_eq rfl | exact Dle.i (by omega) | exact Dle.i (by simp only [Int.toNat_natCast] at *; omega) | exact Dle.nil | exact Dle.rc Dle.nil | exact Option.some_ne_none _ | exact Or.inl rfl | exact Or.inr trivial | omega | (simp only [Int.toNat_natCast] at *; omega) | (intro _ _ _ _; exact Dle.of_eq rfl) | (intro i j hi hj; exact Dle.of_eq (by simp)) | refine And.intro ?_ ?_)⟩, rfl⟩
            | trace_state
        · rw [if_neg hO]
          have ha := add_2000_72 E l (by omega) r 5
          refine SpH.body Tryz.func94 (by kernel_rfl) rfl (by kernel_rfl) (by kernel_rfl) (by kernel_rfl) ?_
          repeat' first
            | (refine facW_intro ?_; intro _)
            | refine Or.inl ?_
            | ((conv => whnf); first | (refine condW_dec ?_ ?_ <;> intro _ <;> try (exfalso; omega)) | refine condW_not ?_ | (refine condW_bool ?_ ?_ <;> intro _ <;> try (exfalso; omega)) | (refine nbC_t (fun _ => ?_) ?_) | (refine nbC_f ?_ (fun _ => ?_)))
            | refine And.intro (by first | omega | (simp only [Int.toNat_natCast] at *; omega) | (simp only [Nat.reduceAdd, Int.cast_ofNat_Int, true_and, and_true]; omega) | kernel_rfl) ?_
            | refine RegW.run ?_
            | refine ⟨_, h1, ?_⟩
            | fail
          all_goals try (exfalso; omega)
          all_goals try (exfalso; exact absurd (hb.symm.trans (show f.bounded = true by assumption)) (by decide))
          all_goals
            refine ⟨Nat, fun k => [(61, i64 k)], fun k => [], [5, 6, 3000, 2000], fun k => [], fun k => k ≤ f.oneOf.length ∧ q = idxS f.oneOf v.text k, fun k => f.oneOf.length - k, ⟨0, ⟨by omega, hq⟩, ⟨[], ⟨by kernel_rfl, by kernel_rfl, by kernel_rfl, by kernel_rfl, by kernel_rfl, by kernel_rfl, by kernel_rfl⟩, (by repeat' first | exact trivial | exact rfl | kernel_rfl | exact Dle.of_eq rfl | exact MLe.of_eq rfl | exact Dle.i (by omega) | exact Dle.i (by simp only [Int.toNat_natCast] at *; omega) | exact Dle.nil | exact Dle.rc Dle.nil | exact Option.some_ne_none _ | exact Or.inl rfl | exact Or.inr trivial | omega | (simp only [Int.toNat_natCast] at *; omega) | (intro _ _ _ _; exact Dle.of_eq rfl) | refine And.intro ?_ ?_)⟩⟩, fun k hk => ?_⟩
            obtain ⟨hk9, hK⟩ := hk
            by_cases hlt : k < f.oneOf.length
            · by_cases hx : v.text = f.oneOf.getD k ⟨#[]⟩
              · have hx' : f.oneOf.getD ((k : Int)).toNat ⟨#[]⟩ = v.text := hx.symm
                rw [idxS_at hlt hx] at hK
                have e : (if 0 ≤ q then ([] : List Flt) else [(r, 5)]) = [] := if_pos (by omega)
                repeat' first
                  | (refine facW_intro ?_; intro _)
                  | refine Or.inl ?_
                  | ((conv => whnf); first | (refine condW_dec ?_ ?_ <;> intro _ <;> try (exfalso; omega)) | refine condW_not ?_ | (refine condW_bool ?_ ?_ <;> intro _ <;> try (exfalso; omega)) | (refine nbC_t (fun _ => ?_) ?_) | (refine nbC_f ?_ (fun _ => ?_)))
                  | refine And.intro (by first | omega | (simp only [Int.toNat_natCast] at *; omega) | (simp only [Nat.reduceAdd, Int.cast_ofNat_Int, true_and, and_true]; omega) | kernel_rfl) ?_
                  | refine RegW.run ?_
                  | fail
                all_goals first
                  | (exfalso; exact absurd hx' (by assumption))
                  | exact ⟨[(3000, .cells [.own 72 2 0 (l ++ ([] ++ (if 0 ≤ q then ([] : List Flt) else [(r, 5)]))).length])], [(72, 95, (l ++ ([] ++ (if 0 ≤ q then ([] : List Flt) else [(r, 5)]))).length, rowQ (l ++ ([] ++ (if 0 ≤ q then ([] : List Flt) else [(r, 5)]))))], rfl, ⟨[(72, some 2000)], ⟨by kernel_rfl, by kernel_rfl, by kernel_rfl, by kernel_rfl, by kernel_rfl, by kernel_rfl, by kernel_rfl⟩, (by repeat' first | (first | exact Dle.of_eq (by rw [e]; simp) | (rw [e]; simp; done)) | exact trivial | exact rfl | kernel_rfl | exact Dle.of_eq rfl | exact MLe.of_eq rfl | exact Dle.i (by omega) | exact Dle.i (by simp only [Int.toNat_natCast] at *; omega) | exact Dle.nil | exact Dle.rc Dle.nil | exact Option.some_ne_none _ | exact Or.inl rfl | exact Or.inr trivial | omega | (simp only [Int.toNat_natCast] at *; omega) | (intro _ _ _ _; exact Dle.of_eq rfl) | (intro i j hi hj; exact Dle.of_eq (by rw [e]; simp)) | refine And.intro ?_ ?_)⟩, rfl⟩
                  | trace_state
              · have hx' : ¬ f.oneOf.getD ((k : Int)).toNat ⟨#[]⟩ = v.text := fun h => hx h.symm
                rw [idxS_next hlt hx] at hK
                repeat' first
                  | (refine facW_intro ?_; intro _)
                  | refine Or.inl ?_
                  | ((conv => whnf); first | (refine condW_dec ?_ ?_ <;> intro _ <;> try (exfalso; omega)) | refine condW_not ?_ | (refine condW_bool ?_ ?_ <;> intro _ <;> try (exfalso; omega)) | (refine nbC_t (fun _ => ?_) ?_) | (refine nbC_f ?_ (fun _ => ?_)))
                  | refine And.intro (by first | omega | (simp only [Int.toNat_natCast] at *; omega) | (simp only [Nat.reduceAdd, Int.cast_ofNat_Int, true_and, and_true]; omega) | kernel_rfl) ?_
                  | refine RegW.run ?_
                  | fail
                all_goals first
                  | exact ⟨k + 1, ⟨by omega, hK⟩, ⟨[], ⟨by kernel_rfl, by kernel_rfl, by kernel_rfl, by kernel_rfl, by kernel_rfl, by kernel_rfl, by kernel_rfl⟩, (by repeat' first | exact trivial | exact rfl | kernel_rfl | exact Dle.of_eq rfl | exact MLe.of_eq rfl | exact Dle.i (by omega) | exact Dle.i (by simp only [Int.toNat_natCast] at *; omega) | exact Dle.nil | exact Dle.rc Dle.nil | exact Option.some_ne_none _ | exact Or.inl rfl | exact Or.inr trivial | omega | (simp only [Int.toNat_natCast] at *; omega) | (intro _ _ _ _; exact Dle.of_eq rfl) | refine And.intro ?_ ?_)⟩, by first | omega | (dsimp only; omega)⟩
                  | (exfalso; exact hx' (by assumption))
                  | trace_state
            · rw [idxS_end hlt] at hK
              have e : (if 0 ≤ q then ([] : List Flt) else [(r, 5)]) = [(r, 5)] := if_neg (by omega)
              repeat' first
                | refine Or.inr ⟨_, _, _, ha, by kernel_rfl, (by repeat' first | exact trivial | exact rfl | kernel_rfl | exact Dle.of_eq rfl | exact MLe.of_eq rfl | exact Dle.i (by omega) | exact Dle.i (by simp only [Int.toNat_natCast] at *; omega) | exact Dle.nil | exact Dle.rc Dle.nil | exact Option.some_ne_none _ | exact Or.inl rfl | exact Or.inr trivial | omega | (simp only [Int.toNat_natCast] at *; omega) | (intro _ _ _ _; exact Dle.of_eq rfl) | refine And.intro ?_ ?_), ?_⟩
                | (refine facW_intro ?_; intro _)
                | refine Or.inl ?_
                | ((conv => whnf); first | (refine condW_dec ?_ ?_ <;> intro _ <;> try (exfalso; omega)) | refine condW_not ?_ | (refine condW_bool ?_ ?_ <;> intro _ <;> try (exfalso; omega)) | (refine nbC_t (fun _ => ?_) ?_) | (refine nbC_f ?_ (fun _ => ?_)))
                | refine And.intro (by first | omega | (simp only [Int.toNat_natCast] at *; omega) | (simp only [Nat.reduceAdd, Int.cast_ofNat_Int, true_and, and_true]; omega) | kernel_rfl) ?_
                | refine RegW.run ?_
                | fail
              all_goals first
                | exact ⟨[(3000, .cells [.own 72 2 0 (l ++ ([] ++ (if 0 ≤ q then ([] : List Flt) else [(r, 5)]))).length])], [(72, 95, (l ++ ([] ++ (if 0 ≤ q then ([] : List Flt) else [(r, 5)]))).length, rowQ (l ++ ([] ++ (if 0 ≤ q then ([] : List Flt) else [(r, 5)]))))], rfl, ⟨[(72, some 72)], ⟨by kernel_rfl, by kernel_rfl, by kernel_rfl, by kernel_rfl, by kernel_rfl, by kernel_rfl, by kernel_rfl⟩, (by repeat' first | (first | exact Dle.of_eq (by rw [e]; simp) | (rw [e]; simp; done)) | exact trivial | exact rfl | kernel_rfl | exact Dle.of_eq rfl | exact MLe.of_eq rfl | exact Dle.i (by omega) | exact Dle.i (by simp only [Int.toNat_natCast] at *; omega) | exact Dle.nil | exact Dle.rc Dle.nil | exact Option.some_ne_none _ | exact Or.inl rfl | exact Or.inr trivial | omega | (simp only [Int.toNat_natCast] at *; omega) | (intro _ _ _ _; exact Dle.of_eq rfl) | (intro i j hi hj; exact Dle.of_eq (by rw [e]; simp)) | refine And.intro ?_ ?_)⟩, rfl⟩
                | trace_state

end
end ft
end Go.Proofs.YtilfmjldcigagaaGreatDoor
