/-
  Whether a value is in a row, as the law asks it: a row that is looked at, a row that is lent; rows of values are alike.
-/
import Derived.Test.YthoemnhigboahaaGreatDoorRk7
import Derived.Test.YthoemnhigboahaaGreatDoorU8
namespace Go.Proofs.YthoemnhigboahaaGreatDoor
open Go.RowKit
set_option linter.unusedVariables false
set_option linter.unusedSimpArgs false
namespace rk
open sb sq
def idxF (p : Vu → Bool) (l : List Vu) (k : Nat) : Int := if k < l.length then (if p (l.getD k .zero) = true then (k : Int) else idxF p l (k + 1)) else -1
  termination_by l.length - k
theorem idxF_any (p : Vu → Bool) (l : List Vu) : ∀ (n k : Nat), l.length - k < n → decide (0 ≤ idxF p l k) = (l.drop k).any p
  | 0, k, h => by omega
  | n + 1, k, h => by
    rw [idxF]
    split
    · rename_i h1
      rw [drop_cons l .zero k h1, List.any_cons]
      split
      · rename_i h2
        rw [h2, decide_eq_true (by omega)]; rfl
      · rename_i h2
        rw [idxF_any p l n (k + 1) (by omega), (by simpa using h2 : p (l.getD k .zero) = false), Bool.false_or]
    · rw [List.drop_of_length_le (by omega)]
      rfl
abbrev refV (v : Vu) : DD := .ref 6 (fun j => ([i64 v.kind, dB v.b, i64 v.i, dS v.text, .rc (.vals v.items), encStrs v.keys] : List DD).getD (0 + j) .opq)
section
variable (E : Env)
set_option maxRecDepth 100000
theorem sameOf_sp (a b : Vu) : Sp (cx Tryz.prog mixed tyT_ok E) 12 [encV a, encV b] (dB (decide (cmpV a b = 0))) := by
  have h1 := compareOf_sp E _ a b (Nat.lt_succ_self _)
  generalize cmpV a b = r at h1
  refine Sp.body Tryz.func12 (by kernel_rfl) rfl (by kernel_rfl) (by kernel_rfl) (by kernel_rfl) ?_
  repeat' first
    | (refine codeW_cond rfl ?_; first | (refine condW_dec ?_ ?_ <;> intro _ <;> try (exfalso; omega)) | refine condW_not ?_ | (refine condW_bool ?_ ?_ <;> intro _ <;> try (exfalso; omega)))
    | (refine facW_intro ?_; intro _)
    | refine Or.inl ?_
    | ((conv => whnf); first | (refine condW_dec ?_ ?_ <;> intro _) | refine condW_not ?_ | (refine condW_bool ?_ ?_ <;> intro _) | (refine nbC_t (fun _ => ?_) ?_) | (refine nbC_f ?_ (fun _ => ?_)))
    | refine And.intro (by first | omega | (simp only [Int.toNat_natCast] at *; omega) | (simp only [Nat.reduceAdd, Int.cast_ofNat_Int, true_and, and_true]; omega)  | kernel_rfl) ?_
    | refine RegW.run ?_
    | refine ⟨_, h1, ?_⟩
    | fail
  all_goals exact Dle.refl _ _
theorem isIt_sp (x v : Vu) : Sp (cx Tryz.prog mixed tyT_ok E) 11 [encV x, refV v] (dB (decide (cmpV x v = 0))) := by
  have h1 := sameOf_sp E x v
  generalize decide (cmpV x v = 0) = b at h1
  refine Sp.body Tryz.func11 (by kernel_rfl) rfl (by kernel_rfl) (by kernel_rfl) (by kernel_rfl) ?_
  repeat' first
    | (refine codeW_cond rfl ?_; first | (refine condW_dec ?_ ?_ <;> intro _ <;> try (exfalso; omega)) | refine condW_not ?_ | (refine condW_bool ?_ ?_ <;> intro _ <;> try (exfalso; omega)))
    | (refine facW_intro ?_; intro _)
    | refine Or.inl ?_
    | ((conv => whnf); first | (refine condW_dec ?_ ?_ <;> intro _) | refine condW_not ?_ | (refine condW_bool ?_ ?_ <;> intro _) | (refine nbC_t (fun _ => ?_) ?_) | (refine nbC_f ?_ (fun _ => ?_)))
    | refine And.intro (by first | omega | (simp only [Int.toNat_natCast] at *; omega) | (simp only [Nat.reduceAdd, Int.cast_ofNat_Int, true_and, and_true]; omega)  | kernel_rfl) ?_
    | refine RegW.run ?_
    | refine ⟨_, h1, ?_⟩
    | fail
  all_goals exact Dle.refl _ _
theorem indexF_sp (fi : FuncId) (n : Nat) (g : Nat → DD) (p : Vu → Bool) (l : List Vu) (h : ∀ x, Sp (cx Tryz.prog mixed tyT_ok E) fi [encV x, .ref n g] (dB (p x))) : Sp (cx Tryz.prog mixed tyT_ok E) 23 [.rc (.vals l), .fn fi [.ref n g]] (i64 (idxF p l 0)) := by
  obtain ⟨r, hr⟩ : ∃ r, r = idxF p l 0 := ⟨_, rfl⟩
  rw [← hr]
  refine Sp.body Tryz.func23 (by kernel_rfl) rfl (by kernel_rfl) (by kernel_rfl) (by kernel_rfl) ?_
  repeat' first
    | (refine codeW_cond rfl ?_; first | (refine condW_dec ?_ ?_ <;> intro _ <;> try (exfalso; omega)) | refine condW_not ?_ | (refine condW_bool ?_ ?_ <;> intro _ <;> try (exfalso; omega)))
    | (refine facW_intro ?_; intro _)
    | refine Or.inl ?_
    | ((conv => whnf); first | (refine condW_dec ?_ ?_ <;> intro _) | refine condW_not ?_ | (refine condW_bool ?_ ?_ <;> intro _) | (refine nbC_t (fun _ => ?_) ?_) | (refine nbC_f ?_ (fun _ => ?_)))
    | refine And.intro (by first | omega | (simp only [Int.toNat_natCast] at *; omega) | (simp only [Nat.reduceAdd, Int.cast_ofNat_Int, true_and, and_true]; omega)  | kernel_rfl) ?_
    | refine RegW.run ?_
    | fail
  refine ⟨Nat, fun k => [(8, i64 k)], fun k => [], [], fun k => [], fun k => k ≤ l.length ∧ r = idxF p l k, fun k => l.length - k, ⟨0, ⟨by omega, hr⟩, ⟨[], ⟨by kernel_rfl, by kernel_rfl, by kernel_rfl, by kernel_rfl, by kernel_rfl, by kernel_rfl, by kernel_rfl⟩, (by repeat' first | exact trivial | exact rfl | kernel_rfl | exact Dle.of_eq rfl | exact MLe.of_eq rfl | exact Dle.i (by omega) | exact Dle.i (by simp only [Int.toNat_natCast] at *; omega) | exact Dle.nil | exact Dle.rc Dle.nil | exact Option.some_ne_none _ | exact Or.inl rfl | exact Or.inr trivial | omega | (simp only [Int.toNat_natCast] at *; omega) | (intro _ _ _ _; exact Dle.of_eq rfl) | refine And.intro ?_ ?_)⟩⟩, fun k hk => ?_⟩
  obtain ⟨hk, hK⟩ := hk
  rw [idxF] at hK
  by_cases hlt : k < l.length
  · rw [if_pos hlt] at hK
    have h1 := h (l.getD k .zero)
    generalize p (l.getD k .zero) = b at h1 hK
    repeat' first
      | (refine codeW_cond rfl ?_; first | (refine condW_dec ?_ ?_ <;> intro _ <;> try (exfalso; omega)) | refine condW_not ?_ | (refine condW_bool ?_ ?_ <;> intro _ <;> try (exfalso; omega)))
      | (refine facW_intro ?_; intro _)
      | refine Or.inl ?_
      | ((conv => whnf); first | (refine condW_dec ?_ ?_ <;> intro _ <;> try (exfalso; omega)) | refine condW_not ?_ | (refine condW_bool ?_ ?_ <;> intro _ <;> try (exfalso; omega)) | (refine nbC_t (fun _ => ?_) ?_) | (refine nbC_f ?_ (fun _ => ?_)))
      | refine And.intro (by first | omega | (simp only [Int.toNat_natCast] at *; omega) | (simp only [Nat.reduceAdd, Int.cast_ofNat_Int, true_and, and_true]; omega)  | kernel_rfl) ?_
      | refine RegW.run ?_
      | refine ⟨_, h1, ?_⟩
      | fail
    all_goals first
      | exact ⟨k + 1, ⟨by omega, by rw [hK]; simp_all⟩, ⟨[], ⟨by kernel_rfl, by kernel_rfl, by kernel_rfl, by kernel_rfl, by kernel_rfl, by kernel_rfl, by kernel_rfl⟩, (by repeat' first | exact trivial | exact rfl | kernel_rfl | exact Dle.of_eq rfl | exact MLe.of_eq rfl | exact Dle.i (by omega) | exact Dle.i (by simp only [Int.toNat_natCast] at *; omega) | exact Dle.nil | exact Dle.rc Dle.nil | exact Option.some_ne_none _ | exact Or.inl rfl | exact Or.inr trivial | omega | (simp only [Int.toNat_natCast] at *; omega) | (intro _ _ _ _; exact Dle.of_eq rfl) | refine And.intro ?_ ?_)⟩, by first | omega | (dsimp only; omega)⟩
      | exact Dle.i (by rw [hK]; simp_all)
      | trace_state
  · rw [if_neg hlt] at hK
    repeat' first
      | (refine codeW_cond rfl ?_; first | (refine condW_dec ?_ ?_ <;> intro _ <;> try (exfalso; omega)) | refine condW_not ?_ | (refine condW_bool ?_ ?_ <;> intro _ <;> try (exfalso; omega)))
      | (refine facW_intro ?_; intro _)
      | refine Or.inl ?_
      | ((conv => whnf); first | (refine condW_dec ?_ ?_ <;> intro _ <;> try (exfalso; omega)) | refine condW_not ?_ | (refine condW_bool ?_ ?_ <;> intro _ <;> try (exfalso; omega)) | (refine nbC_t (fun _ => ?_) ?_) | (refine nbC_f ?_ (fun _ => ?_)))
      | refine And.intro (by first | omega | (simp only [Int.toNat_natCast] at *; omega) | (simp only [Nat.reduceAdd, Int.cast_ofNat_Int, true_and, and_true]; omega)  | kernel_rfl) ?_
      | refine RegW.run ?_
      | fail
    exact Dle.i (by rw [hK])
theorem contF_sp (fi : FuncId) (n : Nat) (g : Nat → DD) (p : Vu → Bool) (l : List Vu) (h : ∀ x, Sp (cx Tryz.prog mixed tyT_ok E) fi [encV x, .ref n g] (dB (p x))) : Sp (cx Tryz.prog mixed tyT_ok E) 10 [.rc (.vals l), .fn fi [.ref n g]] (dB (l.any p)) := by
  have hi := indexF_sp E fi n g p l h
  have e := idxF_any p l (l.length + 1) 0 (by omega)
  rw [List.drop_zero] at e
  rw [← e]
  generalize idxF p l 0 = r at hi
  refine Sp.body Tryz.func10 (by kernel_rfl) rfl (by kernel_rfl) (by kernel_rfl) (by kernel_rfl) ?_
  repeat' first
    | (refine codeW_cond rfl ?_; first | (refine condW_dec ?_ ?_ <;> intro _ <;> try (exfalso; omega)) | refine condW_not ?_ | (refine condW_bool ?_ ?_ <;> intro _ <;> try (exfalso; omega)))
    | (refine facW_intro ?_; intro _)
    | refine Or.inl ?_
    | ((conv => whnf); first | (refine condW_dec ?_ ?_ <;> intro _) | refine condW_not ?_ | (refine condW_bool ?_ ?_ <;> intro _) | (refine nbC_t (fun _ => ?_) ?_) | (refine nbC_f ?_ (fun _ => ?_)))
    | refine And.intro (by first | omega | (simp only [Int.toNat_natCast] at *; omega) | (simp only [Nat.reduceAdd, Int.cast_ofNat_Int, true_and, and_true]; omega)  | kernel_rfl) ?_
    | refine RegW.run ?_
    | refine ⟨_, hi, ?_⟩
    | fail
  all_goals exact Dle.refl _ _
theorem in_sp (l : List Vu) (v : Vu) : Sp (cx Tryz.prog mixed tyT_ok E) 9 [.rc (.vals l), encV v] (dB (inV l v)) := by
  have h1 := contF_sp E 11 6 (fun j => ([i64 v.kind, dB v.b, i64 v.i, dS v.text, .rc (.vals v.items), encStrs v.keys] : List DD).getD (0 + j) .opq) (fun x => decide (cmpV x v = 0)) l (fun x => isIt_sp E x v)
  have e : inV l v = l.any (fun x => decide (cmpV x v = 0)) := rfl
  rw [e]
  generalize l.any (fun x => decide (cmpV x v = 0)) = b at h1
  refine Sp.body Tryz.func9 (by kernel_rfl) rfl (by kernel_rfl) (by kernel_rfl) (by kernel_rfl) ?_
  repeat' first
    | (refine codeW_cond rfl ?_; first | (refine condW_dec ?_ ?_ <;> intro _ <;> try (exfalso; omega)) | refine condW_not ?_ | (refine condW_bool ?_ ?_ <;> intro _ <;> try (exfalso; omega)))
    | (refine facW_intro ?_; intro _)
    | refine Or.inl ?_
    | ((conv => whnf); first | (refine condW_dec ?_ ?_ <;> intro _ <;> try (exfalso; omega)) | refine condW_not ?_ | (refine condW_bool ?_ ?_ <;> intro _ <;> try (exfalso; omega)) | (refine nbC_t (fun _ => ?_) ?_) | (refine nbC_f ?_ (fun _ => ?_)))
    | refine And.intro (by first | omega | (simp only [Int.toNat_natCast] at *; omega) | (simp only [Nat.reduceAdd, Int.cast_ofNat_Int, true_and, and_true]; omega)  | kernel_rfl) ?_
    | refine RegW.run ?_
    | refine ⟨_, h1, ?_⟩
    | fail
  all_goals first
    | exact Dle.refl _ _
    | trace_state
abbrev rowV (l : List Vu) : Ob RC := .row 30 l.length (fun i j => (l.getD i .zero).cell j)
abbrev HIN (l : List Vu) (v : Vu) : List (Nat × Ob RC) := [(2000, rowV l), (2001, .cells [i64 v.kind, dB v.b, i64 v.i, dS v.text, .rc (.vals v.items), encStrs v.keys])]
theorem isIt_l (x v : Vu) : SpH (cx Tryz.prog mixed tyT_ok E) 11 [encV x, .ptr 2001 0] [(2001, .cells [i64 v.kind, dB v.b, i64 v.i, dS v.text, .rc (.vals v.items), encStrs v.keys])] (dB (decide (cmpV x v = 0))) [(2001, .cells [i64 v.kind, dB v.b, i64 v.i, dS v.text, .rc (.vals v.items), encStrs v.keys])] := by
  have h1 := sameOf_sp E x v
  generalize decide (cmpV x v = 0) = b at h1
  refine SpH.body Tryz.func11 (by kernel_rfl) rfl (by kernel_rfl) (by kernel_rfl) (by kernel_rfl) ?_
  repeat' first
    | (refine codeW_cond rfl ?_; first | (refine condW_dec ?_ ?_ <;> intro _ <;> try (exfalso; omega)) | refine condW_not ?_ | (refine condW_bool ?_ ?_ <;> intro _ <;> try (exfalso; omega)))
    | (refine facW_intro ?_; intro _)
    | refine Or.inl ?_
    | ((conv => whnf); first | (refine condW_dec ?_ ?_ <;> intro _ <;> try (exfalso; omega)) | refine condW_not ?_ | (refine condW_bool ?_ ?_ <;> intro _ <;> try (exfalso; omega)) | (refine nbC_t (fun _ => ?_) ?_) | (refine nbC_f ?_ (fun _ => ?_)))
    | refine And.intro (by first | omega | (simp only [Int.toNat_natCast] at *; omega) | (simp only [Nat.reduceAdd, Int.cast_ofNat_Int, true_and, and_true]; omega)  | kernel_rfl) ?_
    | refine RegW.run ?_
    | refine ⟨_, h1, ?_⟩
    | fail
  all_goals first
    | exact ⟨[(2001, .cells [i64 v.kind, dB v.b, i64 v.i, dS v.text, .rc (.vals v.items), encStrs v.keys])], [], rfl, ⟨[], ⟨by kernel_rfl, by kernel_rfl, by kernel_rfl, by kernel_rfl, by kernel_rfl, by kernel_rfl, by kernel_rfl⟩, (by repeat' first | exact trivial | exact rfl | kernel_rfl | exact Dle.of_eq rfl | exact MLe.of_eq rfl | exact Dle.i (by omega) | exact Dle.i (by simp only [Int.toNat_natCast] at *; omega) | exact Dle.nil | exact Dle.rc Dle.nil | exact Option.some_ne_none _ | exact Or.inl rfl | exact Or.inr trivial | omega | (simp only [Int.toNat_natCast] at *; omega) | (intro _ _ _ _; exact Dle.of_eq rfl) | refine And.intro ?_ ?_)⟩, rfl⟩
    | trace_state
theorem indexF_l (fi : FuncId) (v : Vu) (p : Vu → Bool) (l : List Vu) (hl : l.length ≤ 1000000000) (h : ∀ x, SpH (cx Tryz.prog mixed tyT_ok E) fi [encV x, .ptr 2001 0] [(2001, .cells [i64 v.kind, dB v.b, i64 v.i, dS v.text, .rc (.vals v.items), encStrs v.keys])] (dB (p x)) [(2001, .cells [i64 v.kind, dB v.b, i64 v.i, dS v.text, .rc (.vals v.items), encStrs v.keys])]) : SpH (cx Tryz.prog mixed tyT_ok E) 23 [.own 2000 6 0 l.length, .fn fi [.ptr 2001 0]] (HIN l v) (i64 (idxF p l 0)) (HIN l v) := by
  obtain ⟨r, hr⟩ : ∃ r, r = idxF p l 0 := ⟨_, rfl⟩
  rw [← hr]
  refine SpH.body Tryz.func23 (by kernel_rfl) rfl (by kernel_rfl) (by kernel_rfl) (by kernel_rfl) ?_
  repeat' first
    | (refine codeW_cond rfl ?_; first | (refine condW_dec ?_ ?_ <;> intro _ <;> try (exfalso; omega)) | refine condW_not ?_ | (refine condW_bool ?_ ?_ <;> intro _ <;> try (exfalso; omega)))
    | (refine facW_intro ?_; intro _)
    | refine Or.inl ?_
    | ((conv => whnf); first | (refine condW_dec ?_ ?_ <;> intro _ <;> try (exfalso; omega)) | refine condW_not ?_ | (refine condW_bool ?_ ?_ <;> intro _ <;> try (exfalso; omega)) | (refine nbC_t (fun _ => ?_) ?_) | (refine nbC_f ?_ (fun _ => ?_)))
    | refine And.intro (by first | omega | (simp only [Int.toNat_natCast] at *; omega) | (simp only [Nat.reduceAdd, Int.cast_ofNat_Int, true_and, and_true]; omega)  | kernel_rfl) ?_
    | refine RegW.run ?_
    | fail
  refine ⟨Nat, fun k => [(8, i64 k)], fun k => [], [2000, 2001], fun k => [], fun k => k ≤ l.length ∧ r = idxF p l k, fun k => l.length - k, ⟨0, ⟨by omega, hr⟩, ⟨[], ⟨by kernel_rfl, by kernel_rfl, by kernel_rfl, by kernel_rfl, by kernel_rfl, by kernel_rfl, by kernel_rfl⟩, (by repeat' first | exact trivial | exact rfl | kernel_rfl | exact Dle.of_eq rfl | exact MLe.of_eq rfl | exact Dle.i (by omega) | exact Dle.i (by simp only [Int.toNat_natCast] at *; omega) | exact Dle.nil | exact Dle.rc Dle.nil | exact Option.some_ne_none _ | exact Or.inl rfl | exact Or.inr trivial | omega | (simp only [Int.toNat_natCast] at *; omega) | (intro _ _ _ _; exact Dle.of_eq rfl) | refine And.intro ?_ ?_)⟩⟩, fun k hk => ?_⟩
  obtain ⟨hk, hK⟩ := hk
  rw [idxF] at hK
  by_cases hlt : k < l.length
  · rw [if_pos hlt] at hK
    have ek : 0 + ((k : Int)).toNat = k := by rw [Nat.zero_add, Int.toNat_natCast]
    have h1 := h (l.getD (0 + ((k : Int)).toNat) .zero)
    rw [show p (l.getD (0 + ((k : Int)).toNat) .zero) = p (l.getD k .zero) by rw [ek]] at h1
    cases hb : p (l.getD k .zero)
    · rw [hb] at h1 hK
      rw [if_neg (by decide)] at hK
      repeat' first
        | refine Or.inr ⟨_, _, _, Or.inl (h1), by kernel_rfl, (by repeat' first | exact trivial | exact rfl | kernel_rfl | exact Dle.of_eq rfl | exact MLe.of_eq rfl | exact Dle.i (by omega) | exact Dle.i (by simp only [Int.toNat_natCast] at *; omega) | exact Dle.nil | exact Dle.rc Dle.nil | exact Option.some_ne_none _ | exact Or.inl rfl | exact Or.inr trivial | omega | (simp only [Int.toNat_natCast] at *; omega) | (intro _ _ _ _; exact Dle.of_eq rfl) | refine And.intro ?_ ?_), ?_⟩
        | (refine codeW_cond rfl ?_; first | (refine condW_dec ?_ ?_ <;> intro _ <;> try (exfalso; omega)) | refine condW_not ?_ | (refine condW_bool ?_ ?_ <;> intro _ <;> try (exfalso; omega)))
        | (refine facW_intro ?_; intro _)
        | refine Or.inl ?_
        | ((conv => whnf); first | (refine condW_dec ?_ ?_ <;> intro _ <;> try (exfalso; omega)) | refine condW_not ?_ | (refine condW_bool ?_ ?_ <;> intro _ <;> try (exfalso; omega)) | (refine nbC_t (fun _ => ?_) ?_) | (refine nbC_f ?_ (fun _ => ?_)))
        | refine And.intro (by first | omega | (simp only [Int.toNat_natCast] at *; omega) | (simp only [Nat.reduceAdd, Int.cast_ofNat_Int, true_and, and_true]; omega)  | kernel_rfl) ?_
        | refine RegW.run ?_
        | fail
      all_goals first
        | (exfalso; omega)
        | exact ⟨k + 1, ⟨by omega, hK⟩, ⟨[], ⟨by kernel_rfl, by kernel_rfl, by kernel_rfl, by kernel_rfl, by kernel_rfl, by kernel_rfl, by kernel_rfl⟩, (by repeat' first | exact trivial | exact rfl | kernel_rfl | exact Dle.of_eq rfl | exact MLe.of_eq rfl | exact Dle.i (by omega) | exact Dle.i (by simp only [Int.toNat_natCast] at *; omega) | exact Dle.nil | exact Dle.rc Dle.nil | exact Option.some_ne_none _ | exact Or.inl rfl | exact Or.inr trivial | omega | (simp only [Int.toNat_natCast] at *; omega) | (intro _ _ _ _; exact Dle.of_eq rfl) | refine And.intro ?_ ?_)⟩, by first | omega | (dsimp only; omega)⟩
        | trace_state
    · rw [hb] at h1 hK
      rw [if_pos rfl] at hK
      rw [hK]
      repeat' first
        | refine Or.inr ⟨_, _, _, Or.inl (h1), by kernel_rfl, (by repeat' first | exact trivial | exact rfl | kernel_rfl | exact Dle.of_eq rfl | exact MLe.of_eq rfl | exact Dle.i (by omega) | exact Dle.i (by simp only [Int.toNat_natCast] at *; omega) | exact Dle.nil | exact Dle.rc Dle.nil | exact Option.some_ne_none _ | exact Or.inl rfl | exact Or.inr trivial | omega | (simp only [Int.toNat_natCast] at *; omega) | (intro _ _ _ _; exact Dle.of_eq rfl) | refine And.intro ?_ ?_), ?_⟩
        | (refine codeW_cond rfl ?_; first | (refine condW_dec ?_ ?_ <;> intro _ <;> try (exfalso; omega)) | refine condW_not ?_ | (refine condW_bool ?_ ?_ <;> intro _ <;> try (exfalso; omega)))
        | (refine facW_intro ?_; intro _)
        | refine Or.inl ?_
        | ((conv => whnf); first | (refine condW_dec ?_ ?_ <;> intro _ <;> try (exfalso; omega)) | refine condW_not ?_ | (refine condW_bool ?_ ?_ <;> intro _ <;> try (exfalso; omega)) | (refine nbC_t (fun _ => ?_) ?_) | (refine nbC_f ?_ (fun _ => ?_)))
        | refine And.intro (by first | omega | (simp only [Int.toNat_natCast] at *; omega) | (simp only [Nat.reduceAdd, Int.cast_ofNat_Int, true_and, and_true]; omega)  | kernel_rfl) ?_
        | refine RegW.run ?_
        | fail
      all_goals first
        | (exfalso; omega)
        | exact ⟨[(2000, .row 30 l.length (fun i j => (l.getD i .zero).cell j)), (2001, .cells [i64 v.kind, dB v.b, i64 v.i, dS v.text, .rc (.vals v.items), encStrs v.keys])], [], rfl, ⟨[], ⟨by kernel_rfl, by kernel_rfl, by kernel_rfl, by kernel_rfl, by kernel_rfl, by kernel_rfl, by kernel_rfl⟩, (by repeat' first | exact trivial | exact rfl | kernel_rfl | exact Dle.of_eq rfl | exact MLe.of_eq rfl | exact Dle.i (by omega) | exact Dle.i (by simp only [Int.toNat_natCast] at *; omega) | exact Dle.nil | exact Dle.rc Dle.nil | exact Option.some_ne_none _ | exact Or.inl rfl | exact Or.inr trivial | omega | (simp only [Int.toNat_natCast] at *; omega) | (intro _ _ _ _; exact Dle.of_eq rfl) | refine And.intro ?_ ?_)⟩, rfl⟩
        | trace_state
  · rw [if_neg hlt] at hK
    rw [hK]
    repeat' first
      | (refine codeW_cond rfl ?_; first | (refine condW_dec ?_ ?_ <;> intro _ <;> try (exfalso; omega)) | refine condW_not ?_ | (refine condW_bool ?_ ?_ <;> intro _ <;> try (exfalso; omega)))
      | (refine facW_intro ?_; intro _)
      | refine Or.inl ?_
      | ((conv => whnf); first | (refine condW_dec ?_ ?_ <;> intro _ <;> try (exfalso; omega)) | refine condW_not ?_ | (refine condW_bool ?_ ?_ <;> intro _ <;> try (exfalso; omega)) | (refine nbC_t (fun _ => ?_) ?_) | (refine nbC_f ?_ (fun _ => ?_)))
      | refine And.intro (by first | omega | (simp only [Int.toNat_natCast] at *; omega) | (simp only [Nat.reduceAdd, Int.cast_ofNat_Int, true_and, and_true]; omega)  | kernel_rfl) ?_
      | refine RegW.run ?_
      | fail
    all_goals first
      | (exfalso; omega)
      | exact ⟨[(2000, .row 30 l.length (fun i j => (l.getD i .zero).cell j)), (2001, .cells [i64 v.kind, dB v.b, i64 v.i, dS v.text, .rc (.vals v.items), encStrs v.keys])], [], rfl, ⟨[], ⟨by kernel_rfl, by kernel_rfl, by kernel_rfl, by kernel_rfl, by kernel_rfl, by kernel_rfl, by kernel_rfl⟩, (by repeat' first | exact trivial | exact rfl | kernel_rfl | exact Dle.of_eq rfl | exact MLe.of_eq rfl | exact Dle.i (by omega) | exact Dle.i (by simp only [Int.toNat_natCast] at *; omega) | exact Dle.nil | exact Dle.rc Dle.nil | exact Option.some_ne_none _ | exact Or.inl rfl | exact Or.inr trivial | omega | (simp only [Int.toNat_natCast] at *; omega) | (intro _ _ _ _; exact Dle.of_eq rfl) | refine And.intro ?_ ?_)⟩, rfl⟩
      | trace_state
theorem contF_l (fi : FuncId) (v : Vu) (p : Vu → Bool) (l : List Vu) (hl : l.length ≤ 1000000000) (h : ∀ x, SpH (cx Tryz.prog mixed tyT_ok E) fi [encV x, .ptr 2001 0] [(2001, .cells [i64 v.kind, dB v.b, i64 v.i, dS v.text, .rc (.vals v.items), encStrs v.keys])] (dB (p x)) [(2001, .cells [i64 v.kind, dB v.b, i64 v.i, dS v.text, .rc (.vals v.items), encStrs v.keys])]) : SpH (cx Tryz.prog mixed tyT_ok E) 10 [.own 2000 6 0 l.length, .fn fi [.ptr 2001 0]] (HIN l v) (dB (l.any p)) (HIN l v) := by
  have hi := indexF_l E fi v p l hl h
  have e := idxF_any p l (l.length + 1) 0 (by omega)
  rw [List.drop_zero] at e
  rw [← e]
  generalize idxF p l 0 = r at hi
  refine SpH.body Tryz.func10 (by kernel_rfl) rfl (by kernel_rfl) (by kernel_rfl) (by kernel_rfl) ?_
  repeat' first
    | refine Or.inr ⟨_, _, _, Or.inl (hi), by kernel_rfl, (by repeat' first | exact trivial | exact rfl | kernel_rfl | exact Dle.of_eq rfl | exact MLe.of_eq rfl | exact Dle.i (by omega) | exact Dle.i (by simp only [Int.toNat_natCast] at *; omega) | exact Dle.nil | exact Dle.rc Dle.nil | exact Option.some_ne_none _ | exact Or.inl rfl | exact Or.inr trivial | omega | (simp only [Int.toNat_natCast] at *; omega) | (intro _ _ _ _; exact Dle.of_eq rfl) | refine And.intro ?_ ?_), ?_⟩
    | (refine codeW_cond rfl ?_; first | (refine condW_dec ?_ ?_ <;> intro _ <;> try (exfalso; omega)) | refine condW_not ?_ | (refine condW_bool ?_ ?_ <;> intro _ <;> try (exfalso; omega)))
    | (refine facW_intro ?_; intro _)
    | refine Or.inl ?_
    | ((conv => whnf); first | (refine condW_dec ?_ ?_ <;> intro _ <;> try (exfalso; omega)) | refine condW_not ?_ | (refine condW_bool ?_ ?_ <;> intro _ <;> try (exfalso; omega)) | (refine nbC_t (fun _ => ?_) ?_) | (refine nbC_f ?_ (fun _ => ?_)))
    | refine And.intro (by first | omega | (simp only [Int.toNat_natCast] at *; omega) | (simp only [Nat.reduceAdd, Int.cast_ofNat_Int, true_and, and_true]; omega)  | kernel_rfl) ?_
    | refine RegW.run ?_
    | fail
  all_goals first
    | exact ⟨[(2000, .row 30 l.length (fun i j => (l.getD i .zero).cell j)), (2001, .cells [i64 v.kind, dB v.b, i64 v.i, dS v.text, .rc (.vals v.items), encStrs v.keys])], [], rfl, ⟨[], ⟨by kernel_rfl, by kernel_rfl, by kernel_rfl, by kernel_rfl, by kernel_rfl, by kernel_rfl, by kernel_rfl⟩, (by repeat' first | exact trivial | exact rfl | kernel_rfl | exact Dle.of_eq rfl | exact MLe.of_eq rfl | exact Dle.i (by omega) | exact Dle.i (by simp only [Int.toNat_natCast] at *; omega) | exact Dle.nil | exact Dle.rc Dle.nil | exact Option.some_ne_none _ | exact Or.inl rfl | exact Or.inr trivial | omega | (simp only [Int.toNat_natCast] at *; omega) | (intro _ _ _ _; exact Dle.of_eq rfl) | refine And.intro ?_ ?_)⟩, rfl⟩
    | trace_state
theorem contF_3 (v : Vu) (l : List Vu) (hl : l.length ≤ 1000000000) : SpH (cx Tryz.prog mixed tyT_ok E) 10 [.own 2000 6 0 l.length, .fn 11 [.ptr 3 0]] [(2000, rowV l), (3, .cells [i64 v.kind, dB v.b, i64 v.i, dS v.text, .rc (.vals v.items), encStrs v.keys])] (dB (inV l v)) [(2000, rowV l), (3, .cells [i64 v.kind, dB v.b, i64 v.i, dS v.text, .rc (.vals v.items), encStrs v.keys])] := by
  have h := (contF_l E 11 v (fun x => decide (cmpV x v = 0)) l hl (fun x => isIt_l E x v)).swap 2001 3
  simp only [HIN, rowV, encStrs, D.renL, D.ren, renH, Ob.ren, List.map_cons, List.map_nil, swp_l, swp_no (show (2000 : Nat) ≠ 2001 by decide) (show (2000 : Nat) ≠ 3 by decide)] at h
  exact h
theorem in_l (l : List Vu) (v : Vu) (hl : l.length ≤ 1000000000) : SpH (cx Tryz.prog mixed tyT_ok E) 9 [.own 2000 6 0 l.length, encV v] [(2000, rowV l)] (dB (inV l v)) [(2000, rowV l)] := by
  have h1 := contF_3 E v l hl
  generalize inV l v = b at h1
  refine SpH.body Tryz.func9 (by kernel_rfl) rfl (by kernel_rfl) (by kernel_rfl) (by kernel_rfl) ?_
  repeat' first
    | refine Or.inr ⟨_, _, _, Or.inl (h1), by kernel_rfl, (by repeat' first | exact trivial | exact rfl | kernel_rfl | exact Dle.of_eq rfl | exact MLe.of_eq rfl | exact Dle.i (by omega) | exact Dle.i (by simp only [Int.toNat_natCast] at *; omega) | exact Dle.nil | exact Dle.rc Dle.nil | exact Option.some_ne_none _ | exact Or.inl rfl | exact Or.inr trivial | omega | (simp only [Int.toNat_natCast] at *; omega) | (intro _ _ _ _; exact Dle.of_eq rfl) | refine And.intro ?_ ?_), ?_⟩
    | (refine codeW_cond rfl ?_; first | (refine condW_dec ?_ ?_ <;> intro _ <;> try (exfalso; omega)) | refine condW_not ?_ | (refine condW_bool ?_ ?_ <;> intro _ <;> try (exfalso; omega)))
    | (refine facW_intro ?_; intro _)
    | refine Or.inl ?_
    | ((conv => whnf); first | (refine condW_dec ?_ ?_ <;> intro _ <;> try (exfalso; omega)) | refine condW_not ?_ | (refine condW_bool ?_ ?_ <;> intro _ <;> try (exfalso; omega)) | (refine nbC_t (fun _ => ?_) ?_) | (refine nbC_f ?_ (fun _ => ?_)))
    | refine And.intro (by first | omega | (simp only [Int.toNat_natCast] at *; omega) | (simp only [Nat.reduceAdd, Int.cast_ofNat_Int, true_and, and_true]; omega)  | kernel_rfl) ?_
    | refine RegW.run ?_
    | fail
  all_goals first
    | exact ⟨[(2000, .row 30 l.length (fun i j => (l.getD i .zero).cell j))], [], rfl, ⟨[], ⟨by kernel_rfl, by kernel_rfl, by kernel_rfl, by kernel_rfl, by kernel_rfl, by kernel_rfl, by kernel_rfl⟩, (by repeat' first | exact trivial | exact rfl | kernel_rfl | exact Dle.of_eq rfl | exact MLe.of_eq rfl | exact Dle.i (by omega) | exact Dle.i (by simp only [Int.toNat_natCast] at *; omega) | exact Dle.nil | exact Dle.rc Dle.nil | exact Option.some_ne_none _ | exact Or.inl rfl | exact Or.inr trivial | omega | (simp only [Int.toNat_natCast] at *; omega) | (intro _ _ _ _; exact Dle.of_eq rfl) | refine And.intro ?_ ?_)⟩, rfl⟩
    | trace_state
theorem eqStrs_sp (l : List ByteArray) : Sp (cx Tryz.prog mixed tyT_ok E) 30 [encStrs l, encStrs l] (dB true) := by
  refine Sp.body Tryz.func30 (by kernel_rfl) rfl (by kernel_rfl) (by kernel_rfl) (by kernel_rfl) ?_
  repeat' first
    | (refine codeW_cond rfl ?_; first | (refine condW_dec ?_ ?_ <;> intro _ <;> try (exfalso; omega)) | refine condW_not ?_ | (refine condW_bool ?_ ?_ <;> intro _ <;> try (exfalso; omega)))
    | (refine facW_intro ?_; intro _)
    | refine Or.inl ?_
    | ((conv => whnf); first | (refine condW_dec ?_ ?_ <;> intro _ <;> try (exfalso; omega)) | refine condW_not ?_ | (refine condW_bool ?_ ?_ <;> intro _ <;> try (exfalso; omega)) | (refine nbC_t (fun _ => ?_) ?_) | (refine nbC_f ?_ (fun _ => ?_)))
    | refine And.intro (by first | omega | (simp only [Int.toNat_natCast] at *; omega) | (simp only [Nat.reduceAdd, Int.cast_ofNat_Int, true_and, and_true]; omega)  | kernel_rfl) ?_
    | refine RegW.run ?_
    | fail
  all_goals try (exfalso; rename_i h; exact h rfl)
  refine ⟨Nat, fun k => [(13, i64 k)], fun k => [], [], fun k => [], fun k => k ≤ l.length, fun k => l.length - k, ⟨0, by omega, ⟨[], ⟨by kernel_rfl, by kernel_rfl, by kernel_rfl, by kernel_rfl, by kernel_rfl, by kernel_rfl, by kernel_rfl⟩, (by repeat' first | exact trivial | exact rfl | kernel_rfl | exact Dle.of_eq rfl | exact MLe.of_eq rfl | exact Dle.i (by omega) | exact Dle.i (by simp only [Int.toNat_natCast] at *; omega) | exact Dle.nil | exact Dle.rc Dle.nil | exact Option.some_ne_none _ | exact Or.inl rfl | exact Or.inr trivial | omega | (simp only [Int.toNat_natCast] at *; omega) | (intro _ _ _ _; exact Dle.of_eq rfl) | refine And.intro ?_ ?_)⟩⟩, fun k hk => ?_⟩
  have hk : k ≤ l.length := hk
  repeat' first
    | (refine codeW_cond rfl ?_; first | (refine condW_dec ?_ ?_ <;> intro _ <;> try (exfalso; omega)) | refine condW_not ?_ | (refine condW_bool ?_ ?_ <;> intro _ <;> try (exfalso; omega)))
    | (refine facW_intro ?_; intro _)
    | refine Or.inl ?_
    | ((conv => whnf); first | (refine condW_dec ?_ ?_ <;> intro _ <;> try (exfalso; omega)) | refine condW_not ?_ | (refine condW_bool ?_ ?_ <;> intro _ <;> try (exfalso; omega)) | (refine nbC_t (fun _ => ?_) ?_) | (refine nbC_f ?_ (fun _ => ?_)))
    | refine And.intro (by first | omega | (simp only [Int.toNat_natCast] at *; omega) | (simp only [Nat.reduceAdd, Int.cast_ofNat_Int, true_and, and_true]; omega)  | kernel_rfl) ?_
    | refine RegW.run ?_
    | fail
  all_goals first
    | (exfalso; rename_i h; exact h rfl)
    | exact ⟨k + 1, by omega, ⟨[], ⟨by kernel_rfl, by kernel_rfl, by kernel_rfl, by kernel_rfl, by kernel_rfl, by kernel_rfl, by kernel_rfl⟩, (by repeat' first | exact trivial | exact rfl | kernel_rfl | exact Dle.of_eq rfl | exact MLe.of_eq rfl | exact Dle.i (by omega) | exact Dle.i (by simp only [Int.toNat_natCast] at *; omega) | exact Dle.nil | exact Dle.rc Dle.nil | exact Option.some_ne_none _ | exact Or.inl rfl | exact Or.inr trivial | omega | (simp only [Int.toNat_natCast] at *; omega) | (intro _ _ _ _; exact Dle.of_eq rfl) | refine And.intro ?_ ?_)⟩, by first | omega | (dsimp only; omega)⟩
    | exact Dle.refl _ _
    | trace_state
theorem eqFuncV_sp (l : List Vu) (h : ∀ x ∈ l, Sp (cx Tryz.prog mixed tyT_ok E) 27 [encV x, encV x] (dB true)) : Sp (cx Tryz.prog mixed tyT_ok E) 26 [.rc (.vals l), .rc (.vals l), .fn 27 []] (dB true) := by
  refine Sp.body Tryz.func26 (by kernel_rfl) rfl (by kernel_rfl) (by kernel_rfl) (by kernel_rfl) ?_
  repeat' first
    | (refine codeW_cond rfl ?_; first | (refine condW_dec ?_ ?_ <;> intro _ <;> try (exfalso; omega)) | refine condW_not ?_ | (refine condW_bool ?_ ?_ <;> intro _ <;> try (exfalso; omega)))
    | (refine facW_intro ?_; intro _)
    | refine Or.inl ?_
    | ((conv => whnf); first | (refine condW_dec ?_ ?_ <;> intro _ <;> try (exfalso; omega)) | refine condW_not ?_ | (refine condW_bool ?_ ?_ <;> intro _ <;> try (exfalso; omega)) | (refine nbC_t (fun _ => ?_) ?_) | (refine nbC_f ?_ (fun _ => ?_)))
    | refine And.intro (by first | omega | (simp only [Int.toNat_natCast] at *; omega) | (simp only [Nat.reduceAdd, Int.cast_ofNat_Int, true_and, and_true]; omega)  | kernel_rfl) ?_
    | refine RegW.run ?_
    | fail
  all_goals try (exfalso; rename_i h; exact h rfl)
  refine ⟨Nat, fun k => [(17, i64 k)], fun k => [], [], fun k => [], fun k => k ≤ l.length, fun k => l.length - k, ⟨0, by omega, ⟨[], ⟨by kernel_rfl, by kernel_rfl, by kernel_rfl, by kernel_rfl, by kernel_rfl, by kernel_rfl, by kernel_rfl⟩, (by repeat' first | exact trivial | exact rfl | kernel_rfl | exact Dle.of_eq rfl | exact MLe.of_eq rfl | exact Dle.i (by omega) | exact Dle.i (by simp only [Int.toNat_natCast] at *; omega) | exact Dle.nil | exact Dle.rc Dle.nil | exact Option.some_ne_none _ | exact Or.inl rfl | exact Or.inr trivial | omega | (simp only [Int.toNat_natCast] at *; omega) | (intro _ _ _ _; exact Dle.of_eq rfl) | refine And.intro ?_ ?_)⟩⟩, fun k hk => ?_⟩
  have hk : k ≤ l.length := hk
  by_cases hlt : k < l.length
  · have h1 := h _ (getD_mem l .zero k hlt)
    repeat' first
      | (refine codeW_cond rfl ?_; first | (refine condW_dec ?_ ?_ <;> intro _ <;> try (exfalso; omega)) | refine condW_not ?_ | (refine condW_bool ?_ ?_ <;> intro _ <;> try (exfalso; omega)))
      | (refine facW_intro ?_; intro _)
      | refine Or.inl ?_
      | ((conv => whnf); first | (refine condW_dec ?_ ?_ <;> intro _ <;> try (exfalso; omega)) | refine condW_not ?_ | (refine condW_bool ?_ ?_ <;> intro _ <;> try (exfalso; omega)) | (refine nbC_t (fun _ => ?_) ?_) | (refine nbC_f ?_ (fun _ => ?_)))
      | refine And.intro (by first | omega | (simp only [Int.toNat_natCast] at *; omega) | (simp only [Nat.reduceAdd, Int.cast_ofNat_Int, true_and, and_true]; omega)  | kernel_rfl) ?_
      | refine RegW.run ?_
      | refine ⟨_, h1, ?_⟩
      | fail
    all_goals first
      | exact ⟨k + 1, by omega, ⟨[], ⟨by kernel_rfl, by kernel_rfl, by kernel_rfl, by kernel_rfl, by kernel_rfl, by kernel_rfl, by kernel_rfl⟩, (by repeat' first | exact trivial | exact rfl | kernel_rfl | exact Dle.of_eq rfl | exact MLe.of_eq rfl | exact Dle.i (by omega) | exact Dle.i (by simp only [Int.toNat_natCast] at *; omega) | exact Dle.nil | exact Dle.rc Dle.nil | exact Option.some_ne_none _ | exact Or.inl rfl | exact Or.inr trivial | omega | (simp only [Int.toNat_natCast] at *; omega) | (intro _ _ _ _; exact Dle.of_eq rfl) | refine And.intro ?_ ?_)⟩, by first | omega | (dsimp only; omega)⟩
      | trace_state
  · repeat' first
      | (refine codeW_cond rfl ?_; first | (refine condW_dec ?_ ?_ <;> intro _ <;> try (exfalso; omega)) | refine condW_not ?_ | (refine condW_bool ?_ ?_ <;> intro _ <;> try (exfalso; omega)))
      | (refine facW_intro ?_; intro _)
      | refine Or.inl ?_
      | ((conv => whnf); first | (refine condW_dec ?_ ?_ <;> intro _ <;> try (exfalso; omega)) | refine condW_not ?_ | (refine condW_bool ?_ ?_ <;> intro _ <;> try (exfalso; omega)) | (refine nbC_t (fun _ => ?_) ?_) | (refine nbC_f ?_ (fun _ => ?_)))
      | refine And.intro (by first | omega | (simp only [Int.toNat_natCast] at *; omega) | (simp only [Nat.reduceAdd, Int.cast_ofNat_Int, true_and, and_true]; omega)  | kernel_rfl) ?_
      | refine RegW.run ?_
      | fail
    all_goals first
      | exact Dle.refl _ _
      | trace_state
theorem alikeV_sp : ∀ (N : Nat) (v : Vu), SizeOf.sizeOf v < N → Sp (cx Tryz.prog mixed tyT_ok E) 27 [encV v, encV v] (dB true)
  | 0, v, h => by omega
  | N + 1, v, h => by
    have h1 := eqFuncV_sp E v.items (fun x hx => alikeV_sp N x (by have := items_lt v x hx; omega))
    have h2 := eqStrs_sp E v.keys
    refine Sp.body Tryz.func27 (by kernel_rfl) rfl (by kernel_rfl) (by kernel_rfl) (by kernel_rfl) ?_
    repeat' first
      | (refine codeW_cond rfl ?_; first | (refine condW_dec ?_ ?_ <;> intro _ <;> try (exfalso; omega)) | refine condW_not ?_ | (refine condW_bool ?_ ?_ <;> intro _ <;> try (exfalso; omega)))
      | (refine facW_intro ?_; intro _)
      | refine Or.inl ?_
      | ((conv => whnf); first | (refine condW_dec ?_ ?_ <;> intro _ <;> try (exfalso; omega)) | refine condW_not ?_ | (refine condW_bool ?_ ?_ <;> intro _ <;> try (exfalso; omega)) | (refine nbC_t (fun _ => ?_) ?_) | (refine nbC_f ?_ (fun _ => ?_)))
      | refine And.intro (by first | omega | (simp only [Int.toNat_natCast] at *; omega) | (simp only [Nat.reduceAdd, Int.cast_ofNat_Int, true_and, and_true]; omega)  | kernel_rfl) ?_
      | refine RegW.run ?_
      | refine ⟨_, h1, ?_⟩
      | refine ⟨_, h2, ?_⟩
      | fail
    all_goals first
      | (exfalso; rename_i h; exact h rfl)
      | (exfalso; simp_all; done)
      | exact Dle.refl _ _
      | exact Dle.bo (by simp)
      | trace_state
theorem alikeVs_sp (l : List Vu) : Sp (cx Tryz.prog mixed tyT_ok E) 14 [.ifc 22 (.rc (.vals l)), .ifc 22 (.rc (.vals l))] (dB true) := by
  have h1 := eqFuncV_sp E l (fun x _ => alikeV_sp E _ x (Nat.lt_succ_self _))
  refine Sp.body Tryz.func14 (by kernel_rfl) rfl (by kernel_rfl) (by kernel_rfl) (by kernel_rfl) ?_
  repeat' first
    | (refine codeW_cond rfl ?_; first | (refine condW_dec ?_ ?_ <;> intro _ <;> try (exfalso; omega)) | refine condW_not ?_ | (refine condW_bool ?_ ?_ <;> intro _ <;> try (exfalso; omega)))
    | (refine facW_intro ?_; intro _)
    | refine Or.inl ?_
    | ((conv => whnf); first | (refine condW_dec ?_ ?_ <;> intro _ <;> try (exfalso; omega)) | refine condW_not ?_ | (refine condW_bool ?_ ?_ <;> intro _ <;> try (exfalso; omega)) | (refine nbC_t (fun _ => ?_) ?_) | (refine nbC_f ?_ (fun _ => ?_)))
    | refine And.intro (by first | omega | (simp only [Int.toNat_natCast] at *; omega) | (simp only [Nat.reduceAdd, Int.cast_ofNat_Int, true_and, and_true]; omega)  | kernel_rfl) ?_
    | refine RegW.run ?_
    | refine ⟨_, h1, ?_⟩
    | fail
  all_goals first
    | (exfalso; rename_i h; exact h rfl)
    | exact Dle.refl _ _
    | trace_state
end
end rk
end Go.Proofs.YthoemnhigboahaaGreatDoor
