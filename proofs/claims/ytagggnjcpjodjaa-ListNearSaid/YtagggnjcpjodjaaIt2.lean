/-
  slices.Values, Clone, Compact, Index at ints, as data.
-/
import Derived.Test.YtagggnjcpjodjaaIt1
import Derived.Test.YtagggnjcpjodjaaX0
import Derived.Lib.RowBridge
namespace Go.Proofs.Ytagggnjcpjodjaa
open Go.RowKit Go.Sort
set_option linter.unusedVariables false
set_option linter.unusedSimpArgs false
namespace it
def fstI (l : List Int) (x : Int) (k : Nat) : Int := if k < l.length then (if l.getD k 0 = x then (k : Int) else fstI l x (k + 1)) else -1
termination_by l.length - k
theorem fstI_end {l : List Int} {x : Int} {k : Nat} (h : ¬ k < l.length) : fstI l x k = -1 := by rw [fstI, if_neg h]
theorem fstI_at {l : List Int} {x : Int} {k : Nat} (h : k < l.length) (h2 : l.getD k 0 = x) : fstI l x k = k := by rw [fstI, if_pos h, if_pos h2]
theorem fstI_go {l : List Int} {x : Int} {k : Nat} (h : k < l.length) (h2 : ¬ l.getD k 0 = x) : fstI l x k = fstI l x (k + 1) := by rw [fstI, if_pos h, if_neg h2]
abbrev encI (l : List Int) : DD := .sl 1 8 l.length (fun i _ => i64 (l.getD i 0))
abbrev rowI (l : List Int) (i j : Nat) : DD := i64 (l.getD i 0)
section
variable (E : Env)
set_option maxRecDepth 100000
abbrev valsD (l : List Int) : DD := .fn 43 [.ref 1 (fun j => ([.sl 1 8 l.length (fun i _ => i64 (l.getD i 0))] : List DD).getD (0 + j) .opq)]
theorem values_sp (l : List Int) : Sp (cx Try.prog mixed tyT_ok E) 11 [encI l] (valsD l) := by
  refine Sp.body Try.func11 (by kernel_rfl) rfl (by kernel_rfl) (by kernel_rfl) (by kernel_rfl) ?_
  repeat' first
    | (refine facW_intro ?_; intro _)
    | refine Or.inl ?_
    | ((conv => whnf); first | (refine condW_dec ?_ ?_ <;> intro _ <;> try (exfalso; omega)) | refine condW_not ?_ | (refine condW_bool ?_ ?_ <;> intro _ <;> try (exfalso; omega)) | (refine nbC_t (fun _ => ?_) ?_) | (refine nbC_f ?_ (fun _ => ?_)))
    | refine And.intro (by first | omega | (simp only [Int.toNat_natCast] at *; omega) | (simp only [Nat.reduceAdd, Int.cast_ofNat_Int, true_and, and_true]; omega) | kernel_rfl) ?_
    | refine RegW.run ?_
    | fail
  all_goals first
    | exact Dle.refl _ _
    | trace_state
theorem clone_sp (l : List Int) (hl : l.length * 8 ≤ 140737488355328) : SpH (cx Try.prog mixed tyT_ok E) 14 [encI l] [] (.own 7 1 0 l.length) [(7, .row 3 l.length (rowI l))] := by
  refine SpH.body Try.func14 (by kernel_rfl) rfl (by kernel_rfl) (by kernel_rfl) (by kernel_rfl) ?_
  repeat' first
    | (refine facW_intro ?_; intro _)
    | refine Or.inl ?_
    | ((conv => whnf); first | (refine condW_dec ?_ ?_ <;> intro _ <;> try (exfalso; omega)) | refine condW_not ?_ | (refine condW_bool ?_ ?_ <;> intro _ <;> try (exfalso; omega)) | (refine nbC_t (fun _ => ?_) ?_) | (refine nbC_f ?_ (fun _ => ?_)))
    | refine And.intro (by first | omega | (simp only [Int.toNat_natCast] at *; omega) | (simp only [Nat.reduceAdd, Int.cast_ofNat_Int, true_and, and_true]; omega) | kernel_rfl) ?_
    | refine RegW.run ?_
    | fail
  all_goals first
    | (have h0 : l.length = 0 := by assumption
       exact ⟨[], [(7, 3, l.length, rowI l)], rfl, ⟨[(7, none)], ⟨by kernel_rfl, by kernel_rfl, by kernel_rfl, by kernel_rfl, by kernel_rfl, by kernel_rfl, by kernel_rfl⟩, (by repeat' first | (exact h0) | exact trivial | exact rfl | kernel_rfl | exact Dle.of_eq rfl | exact MLe.of_eq rfl | exact Dle.i (by omega) | exact Dle.i (by simp only [Int.toNat_natCast] at *; omega) | exact Dle.nil | exact Dle.rc Dle.nil | exact Option.some_ne_none _ | exact Or.inl rfl | exact Or.inr trivial | omega | (simp only [Int.toNat_natCast] at *; omega) | (intro _ _ _ _; exact Dle.of_eq rfl) | (intro i j hi hj; exact Dle.of_eq (by simp)) | refine And.intro ?_ ?_)⟩, rfl⟩)
    | exact ⟨[], [(7, 3, l.length, rowI l)], rfl, ⟨[(7, some 7)], ⟨by kernel_rfl, by kernel_rfl, by kernel_rfl, by kernel_rfl, by kernel_rfl, by kernel_rfl, by kernel_rfl⟩, (by repeat' first | (exact Nat.zero_add _) | exact trivial | exact rfl | kernel_rfl | exact Dle.of_eq rfl | exact MLe.of_eq rfl | exact Dle.i (by omega) | exact Dle.i (by simp only [Int.toNat_natCast] at *; omega) | exact Dle.nil | exact Dle.rc Dle.nil | exact Option.some_ne_none _ | exact Or.inl rfl | exact Or.inr trivial | omega | (simp only [Int.toNat_natCast] at *; omega) | (intro _ _ _ _; exact Dle.of_eq rfl) | (intro i j hi hj; exact Dle.of_eq (by simp)) | refine And.intro ?_ ?_)⟩, rfl⟩
    | trace_state
theorem clone_32 (l : List Int) (hl : l.length * 8 ≤ 140737488355328) : SpH (cx Try.prog mixed tyT_ok E) 14 [encI l] [] (.own 32 1 0 l.length) [(32, .row 3 l.length (rowI l))] := by
  have h := (clone_sp E l hl).swap 7 32
  have e1 : swp 7 32 7 = 32 := by decide
  simp only [D.renL, D.ren, renH, Ob.ren, e1] at h
  exact h
theorem compact_sp (l : List Int) (hl : l.length * 8 ≤ 140737488355328) : ∃ r : List Int, SpH (cx Try.prog mixed tyT_ok E) 13 [.own 2000 1 0 l.length] [(2000, .row 3 l.length (fun i _ => .v (Value.int .i64 (l.getD i 0))))] (.own 2000 1 0 (Lib.compact l).length) [(2000, .row 3 l.length (fun i _ => .v (Value.int .i64 (r.getD i 0))))] := by
  have hle := Lib.compact_length_le l
  refine ⟨Lib.compact l ++ List.replicate (l.length - (Lib.compact l).length) 0, SpH.of_row (X := (cx Try.prog mixed tyT_ok E)) (e := 3) (enc := Value.int .i64) (by kernel_rfl) (by simp; omega) 0 (fun x _ => .inr rfl) ⟨_, _, Try.func13, by kernel_rfl, rfl⟩ (.own 2000 1 0 (Lib.compact l).length) (fun b c => .slice (some ⟨b, 0, none⟩) (Lib.compact l).length c) (.slice none 0 0) ?_ ?_ ?_ ?_⟩
  · intro M w β b c hβ hc hm
    have := Rep.own (V := view) (M := M) (w := w) (s := 1) (o := 0) (n := (Lib.compact l).length) hβ (by omega) hm
    have h1 : Rep view M w β (.own 2000 1 0 (Lib.compact l).length) (.slice (some ⟨b, 0, none⟩) (Lib.compact l).length c) := by simpa using this
    exact h1
  · intro h0 M w β hβ
    have : (Lib.compact l).length = 0 := by omega
    rw [this]
    exact .ownNil hβ
  · intro h0 w
    exact (Try.slices_Compact_int_empty none 0 w).mono fun e w' ⟨he, hw⟩ => ⟨he, hw⟩
  · intro b c w hH hb hc
    refine (Try.slices_Compact_int b 0 c l w hH (by omega) hc).mono fun e w' ⟨he, q, hw⟩ => ⟨he, q, #[], ?_⟩
    rw [hw]
    simp [Go.Sort.grow]
    rfl
theorem compact_32 (l : List Int) (hl : l.length * 8 ≤ 140737488355328) : ∃ r : List Int, SpH (cx Try.prog mixed tyT_ok E) 13 [.own 32 1 0 l.length] [(32, .row 3 l.length (rowI l))] (.own 32 1 0 (Lib.compact l).length) [(32, .row 3 l.length (rowI r))] := by
  obtain ⟨r, h⟩ := compact_sp E l hl
  have h := h.swap 2000 32
  have e1 : swp 2000 32 2000 = 32 := by decide
  simp only [D.renL, D.ren, renH, Ob.ren, e1] at h
  exact ⟨r, h⟩
theorem index_sp (l : List Int) (x : Int) (hl : l.length * 8 ≤ 140737488355328) : Sp (cx Try.prog mixed tyT_ok E) 12 [encI l, i64 x] (i64 (fstI l x 0)) := by
  obtain ⟨r, hr⟩ : ∃ r, r = fstI l x 0 := ⟨_, rfl⟩
  rw [← hr]
  refine Sp.body Try.func12 (by kernel_rfl) rfl (by kernel_rfl) (by kernel_rfl) (by kernel_rfl) ?_
  repeat' first
    | (refine facW_intro ?_; intro _)
    | refine Or.inl ?_
    | ((conv => whnf); first | (refine condW_dec ?_ ?_ <;> intro _ <;> try (exfalso; omega)) | refine condW_not ?_ | (refine condW_bool ?_ ?_ <;> intro _ <;> try (exfalso; omega)) | (refine nbC_t (fun _ => ?_) ?_) | (refine nbC_f ?_ (fun _ => ?_)))
    | refine And.intro (by first | omega | (simp only [Int.toNat_natCast] at *; omega) | (simp only [Nat.reduceAdd, Int.cast_ofNat_Int, true_and, and_true]; omega) | kernel_rfl) ?_
    | refine RegW.run ?_
    | fail
  refine ⟨Nat, fun k => [(8, i64 k)], fun k => [], [], fun k => [], fun k => k ≤ l.length ∧ r = fstI l x k, fun k => l.length - k, ⟨0, ⟨by omega, hr⟩, ⟨[], ⟨by kernel_rfl, by kernel_rfl, by kernel_rfl, by kernel_rfl, by kernel_rfl, by kernel_rfl, by kernel_rfl⟩, (by repeat' first | exact trivial | exact rfl | kernel_rfl | exact Dle.of_eq rfl | exact MLe.of_eq rfl | exact Dle.i (by omega) | exact Dle.i (by simp only [Int.toNat_natCast] at *; omega) | exact Dle.nil | exact Dle.rc Dle.nil | exact Option.some_ne_none _ | exact Or.inl rfl | exact Or.inr trivial | omega | (simp only [Int.toNat_natCast] at *; omega) | (intro _ _ _ _; exact Dle.of_eq rfl) | refine And.intro ?_ ?_)⟩⟩, fun k hk => ?_⟩
  obtain ⟨hk, hK⟩ := hk
  by_cases hlt : k < l.length
  · by_cases hx : l.getD k 0 = x
    · have e1 : r = k := by rw [hK, fstI_at hlt hx]
      have hx' : l.getD ((k : Int)).toNat 0 = x := hx
      repeat' first
        | (refine facW_intro ?_; intro _)
        | refine Or.inl ?_
        | ((conv => whnf); first | (refine condW_dec ?_ ?_ <;> intro _ <;> try (exfalso; omega)) | refine condW_not ?_ | (refine condW_bool ?_ ?_ <;> intro _ <;> try (exfalso; omega)) | (refine nbC_t (fun _ => ?_) ?_) | (refine nbC_f ?_ (fun _ => ?_)))
        | refine And.intro (by first | omega | (simp only [Int.toNat_natCast] at *; omega) | (simp only [Nat.reduceAdd, Int.cast_ofNat_Int, true_and, and_true]; omega) | kernel_rfl) ?_
        | refine RegW.run ?_
        | fail
      all_goals first
        | exact Dle.i e1.symm
        | (exfalso; omega)
        | trace_state
    · have e1 : r = fstI l x (k + 1) := by rw [hK, fstI_go hlt hx]
      have hx' : ¬ l.getD ((k : Int)).toNat 0 = x := hx
      repeat' first
        | (refine facW_intro ?_; intro _)
        | refine Or.inl ?_
        | ((conv => whnf); first | (refine condW_dec ?_ ?_ <;> intro _ <;> try (exfalso; omega)) | refine condW_not ?_ | (refine condW_bool ?_ ?_ <;> intro _ <;> try (exfalso; omega)) | (refine nbC_t (fun _ => ?_) ?_) | (refine nbC_f ?_ (fun _ => ?_)))
        | refine And.intro (by first | omega | (simp only [Int.toNat_natCast] at *; omega) | (simp only [Nat.reduceAdd, Int.cast_ofNat_Int, true_and, and_true]; omega) | kernel_rfl) ?_
        | refine RegW.run ?_
        | fail
      all_goals first
        | exact ⟨k + 1, ⟨by omega, e1⟩, ⟨[], ⟨by kernel_rfl, by kernel_rfl, by kernel_rfl, by kernel_rfl, by kernel_rfl, by kernel_rfl, by kernel_rfl⟩, (by repeat' first | exact trivial | exact rfl | kernel_rfl | exact Dle.of_eq rfl | exact MLe.of_eq rfl | exact Dle.i (by omega) | exact Dle.i (by simp only [Int.toNat_natCast] at *; omega) | exact Dle.nil | exact Dle.rc Dle.nil | exact Option.some_ne_none _ | exact Or.inl rfl | exact Or.inr trivial | omega | (simp only [Int.toNat_natCast] at *; omega) | (intro _ _ _ _; exact Dle.of_eq rfl) | refine And.intro ?_ ?_)⟩, by first | omega | (dsimp only; omega)⟩
        | (exfalso; omega)
        | trace_state
  · have e1 : r = -1 := by rw [hK, fstI_end hlt]
    repeat' first
      | (refine facW_intro ?_; intro _)
      | refine Or.inl ?_
      | ((conv => whnf); first | (refine condW_dec ?_ ?_ <;> intro _ <;> try (exfalso; omega)) | refine condW_not ?_ | (refine condW_bool ?_ ?_ <;> intro _ <;> try (exfalso; omega)) | (refine nbC_t (fun _ => ?_) ?_) | (refine nbC_f ?_ (fun _ => ?_)))
      | refine And.intro (by first | omega | (simp only [Int.toNat_natCast] at *; omega) | (simp only [Nat.reduceAdd, Int.cast_ofNat_Int, true_and, and_true]; omega) | kernel_rfl) ?_
      | refine RegW.run ?_
      | fail
    all_goals first
      | exact Dle.i e1.symm
      | trace_state
end
end it
end Go.Proofs.Ytagggnjcpjodjaa
