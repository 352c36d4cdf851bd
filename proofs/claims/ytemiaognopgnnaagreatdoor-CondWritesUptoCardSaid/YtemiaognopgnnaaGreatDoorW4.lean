/-
  conf.Compare and the reference's CompareOf. Conditions, the side of the reference: words, closures, zero values.
-/
import Derived.Test.YtemiaognopgnnaaGreatDoorU7
import Derived.Test.YtemiaognopgnnaaGreatDoorW3
namespace Go.Proofs.YtemiaognopgnnaaGreatDoor
open Go.RowKit
set_option linter.unusedVariables false
set_option linter.unusedSimpArgs false
theorem sgn_bit (a b : Bool) : sgn (bitI a) (bitI b) = if a = b then 0 else if b = true then -1 else 1 := by cases a <;> cases b <;> rfl
section
variable (E : Env)
set_option maxRecDepth 100000
set_option maxHeartbeats 4000000 in
theorem compareOf_sp : ∀ (N : Nat) (v w : Vu), SizeOf.sizeOf v < N → Sp (cx Tryz.prog mixed tyT_ok E) 177 [encV v, encV w] (i64 (cmpV v w))
  | 0, v, w, h => by omega
  | N + 1, v, w, h => by
    have ih := fun x y (hx : x ∈ v.items) => compareOf_sp N x y (by have := items_lt v x hx; omega)
    have hb := sgn_bit v.b w.b
    obtain ⟨r, hr⟩ : ∃ r, r = cmpV v w := ⟨_, rfl⟩
    rw [← hr]
    rw [cmpV_eq] at hr
    unfold cmpH at hr
    have c1 := cmpI_sp E v.kind w.kind
    have c2 := cmpI_sp E v.i w.i
    have c3 := strCmp_sp E v.text w.text
    have c4 := slCmp_sp E v.keys w.keys
    generalize sgn v.kind w.kind = a1 at hr c1
    generalize sgn (bitI v.b) (bitI w.b) = a2 at hr hb
    generalize sgn v.i w.i = a3 at hr c2
    generalize cmpS v.text w.text = a4 at hr c3
    generalize cmpK v.keys w.keys 0 = a5 at hr c4
    refine Sp.body Tryz.func177 (by kernel_rfl) rfl (by kernel_rfl) (by kernel_rfl) (by kernel_rfl) ?_
    repeat' first
      | (refine facW_intro ?_; intro _)
      | refine Or.inl ?_
      | ((conv => whnf); first | (refine condW_dec ?_ ?_ <;> intro _) | refine condW_not ?_ | (refine condW_bool ?_ ?_ <;> intro _) | (refine nbC_t (fun _ => ?_) ?_) | (refine nbC_f ?_ (fun _ => ?_)))
      | refine And.intro (by first | omega | (simp only [Int.toNat_natCast] at *; omega) | (simp only [Nat.reduceAdd, Int.cast_ofNat_Int, true_and, and_true]; omega)  | kernel_rfl) ?_
      | refine RegW.run ?_
      | refine ⟨_, c1, ?_⟩
      | refine ⟨_, c2, ?_⟩
      | refine ⟨_, c3, ?_⟩
      | refine ⟨_, c4, ?_⟩
      | refine ⟨_, or3_sp E _ _ _, ?_⟩
      | fail
    all_goals first
      | exact Dle.i (by rw [hr]; grind)
      | skip
    all_goals
      have hr : r = cmpL v.items w.items := by rw [hr]; grind
      refine ⟨Nat, fun k => [(7, i64 k)], fun k => [], [2, 3], fun k => [], fun k => k ≤ v.items.length ∧ k ≤ w.items.length ∧ r = cmpL (v.items.drop k) (w.items.drop k), fun k => v.items.length - k, ⟨0, ⟨by omega, by omega, hr⟩, ⟨[], ⟨by kernel_rfl, by kernel_rfl, by kernel_rfl, by kernel_rfl, by kernel_rfl, by kernel_rfl, by kernel_rfl⟩, (by repeat' first | exact trivial | exact rfl | kernel_rfl | exact Dle.of_eq rfl | exact MLe.of_eq rfl | exact Dle.i (by omega) | exact Dle.i (by simp only [Int.toNat_natCast] at *; omega) | exact Dle.nil | exact Dle.rc Dle.nil | exact Option.some_ne_none _ | exact Or.inl rfl | exact Or.inr trivial | omega | (simp only [Int.toNat_natCast] at *; omega) | (intro _ _ _ _; exact Dle.of_eq rfl) | refine And.intro ?_ ?_)⟩⟩, fun k hk => ?_⟩
      obtain ⟨hk, hk2, hK⟩ := hk
      by_cases hlt : k < v.items.length ∧ k < w.items.length
      · obtain ⟨hl1, hl2⟩ := hlt
        rw [cmpL_drop hl1 hl2] at hK
        have hc := ih _ (w.items.getD k .zero) (getD_mem v.items .zero k hl1)
        generalize cmpV (v.items.getD k .zero) (w.items.getD k .zero) = e at hK hc
        repeat' first
          | (refine facW_intro ?_; intro _)
          | refine Or.inl ?_
          | ((conv => whnf); first | (refine condW_dec ?_ ?_ <;> intro _ <;> try (exfalso; omega)) | refine condW_not ?_ | (refine condW_bool ?_ ?_ <;> intro _ <;> try (exfalso; omega)) | (refine nbC_t (fun _ => ?_) ?_) | (refine nbC_f ?_ (fun _ => ?_)))
          | refine And.intro (by first | omega | (simp only [Int.toNat_natCast] at *; omega) | (simp only [Nat.reduceAdd, Int.cast_ofNat_Int, true_and, and_true]; omega)  | kernel_rfl) ?_
          | refine RegW.run ?_
          | refine ⟨_, hc, ?_⟩
          | fail
        all_goals first
          | exact ⟨k + 1, ⟨by omega, by omega, by rw [hK]; grind⟩, ⟨[], ⟨by kernel_rfl, by kernel_rfl, by kernel_rfl, by kernel_rfl, by kernel_rfl, by kernel_rfl, by kernel_rfl⟩, (by repeat' first | exact trivial | exact rfl | kernel_rfl | exact Dle.of_eq rfl | exact MLe.of_eq rfl | exact Dle.i (by omega) | exact Dle.i (by simp only [Int.toNat_natCast] at *; omega) | exact Dle.nil | exact Dle.rc Dle.nil | exact Option.some_ne_none _ | exact Or.inl rfl | exact Or.inr trivial | omega | (simp only [Int.toNat_natCast] at *; omega) | (intro _ _ _ _; exact Dle.of_eq rfl) | refine And.intro ?_ ?_)⟩, by first | omega | (dsimp only; omega)⟩
          | exact Dle.i (by rw [hK]; grind)
          | trace_state
      · rw [cmpL_end hk hk2 hlt] at hK
        repeat' first
          | (refine facW_intro ?_; intro _)
          | refine Or.inl ?_
          | ((conv => whnf); first | (refine condW_dec ?_ ?_ <;> intro _ <;> try (exfalso; omega)) | refine condW_not ?_ | (refine condW_bool ?_ ?_ <;> intro _ <;> try (exfalso; omega)) | (refine nbC_t (fun _ => ?_) ?_) | (refine nbC_f ?_ (fun _ => ?_)))
          | refine And.intro (by first | omega | (simp only [Int.toNat_natCast] at *; omega) | (simp only [Nat.reduceAdd, Int.cast_ofNat_Int, true_and, and_true]; omega)  | kernel_rfl) ?_
          | refine RegW.run ?_
          | refine ⟨_, cmpI_sp E _ _, ?_⟩
          | fail
        all_goals exact Dle.i (by rw [hK])
end
end Go.Proofs.YtemiaognopgnnaaGreatDoor
namespace Go.Proofs.YtemiaognopgnnaaGreatDoor
open Go.RowKit
set_option linter.unusedVariables false
set_option linter.unusedSimpArgs false
/-- The first place of a key from a place on; -1: none. -/
def idxS (l : List ByteArray) (x : ByteArray) (k : Nat) : Int := if k < l.length then (if x = l.getD k ⟨#[]⟩ then (k : Int) else idxS l x (k + 1)) else -1
  termination_by l.length - k
theorem idxS_end {l : List ByteArray} {x : ByteArray} {k : Nat} (h : ¬ k < l.length) : idxS l x k = -1 := by rw [idxS, if_neg h]
theorem idxS_at {l : List ByteArray} {x : ByteArray} {k : Nat} (h : k < l.length) (h2 : x = l.getD k ⟨#[]⟩) : idxS l x k = k := by rw [idxS, if_pos h, if_pos h2]
theorem idxS_next {l : List ByteArray} {x : ByteArray} {k : Nat} (h : k < l.length) (h2 : ¬ x = l.getD k ⟨#[]⟩) : idxS l x k = idxS l x (k + 1) := by rw [idxS, if_pos h, if_neg h2]
theorem idxS_spec (l : List ByteArray) (x : ByteArray) : ∀ (n k : Nat), l.length - k < n → (idxS l x k = -1 ∧ ∀ i, k ≤ i → i < l.length → ¬ x = l.getD i ⟨#[]⟩) ∨ ∃ m, idxS l x k = (m : Nat) ∧ m < l.length ∧ x = l.getD m ⟨#[]⟩
  | 0, k, h => by omega
  | n + 1, k, h => by
    rcases Nat.lt_or_ge k l.length with h1 | h1
    · by_cases h2 : x = l.getD k ⟨#[]⟩
      · exact .inr ⟨k, idxS_at h1 h2, h1, h2⟩
      · rw [idxS_next h1 h2]
        rcases idxS_spec l x n (k + 1) (by omega) with ⟨h3, h4⟩ | h3
        · refine .inl ⟨h3, fun i hi hil => ?_⟩
          rcases Nat.lt_or_ge k i with h5 | h5
          · exact h4 i h5 hil
          · obtain rfl : i = k := by omega
            exact h2
        · exact .inr h3
    · exact .inl ⟨idxS_end (by omega), fun i hi hil => by omega⟩
theorem res_idx (s : ByteArray) : decide (0 ≤ idxS resWords s 0) = resB s := by
  rcases idxS_spec resWords s (resWords.length + 1) 0 (by omega) with ⟨h1, h2⟩ | ⟨m, h1, h2, h3⟩
  · rw [h1]
    have g := fun i (hi : i < 6) => h2 i (Nat.zero_le _) hi
    have g0 : ¬ s = ⟨#[97, 110, 100]⟩ := g 0 (by decide)
    have g1 : ¬ s = ⟨#[111, 114]⟩ := g 1 (by decide)
    have g2 : ¬ s = ⟨#[110, 111, 116]⟩ := g 2 (by decide)
    have g3 : ¬ s = ⟨#[104, 97, 115]⟩ := g 3 (by decide)
    have g4 : ¬ s = ⟨#[105, 110]⟩ := g 4 (by decide)
    have g5 : ¬ s = ⟨#[98, 101, 103, 105, 110, 115]⟩ := g 5 (by decide)
    unfold resB
    rw [decide_eq_false g0, decide_eq_false g1, decide_eq_false g2, decide_eq_false g3, decide_eq_false g4, decide_eq_false g5]
    rfl
  · rw [h1, decide_eq_true (by omega)]
    unfold resB
    match m, h2, h3 with
    | 0, _, h3 => rw [decide_eq_true (show s = ⟨#[97, 110, 100]⟩ from h3)]; rfl
    | 1, _, h3 => rw [decide_eq_true (show s = ⟨#[111, 114]⟩ from h3)]; simp
    | 2, _, h3 => rw [decide_eq_true (show s = ⟨#[110, 111, 116]⟩ from h3)]; simp
    | 3, _, h3 => rw [decide_eq_true (show s = ⟨#[104, 97, 115]⟩ from h3)]; simp
    | 4, _, h3 => rw [decide_eq_true (show s = ⟨#[105, 110]⟩ from h3)]; simp
    | 5, _, h3 => rw [decide_eq_true (show s = ⟨#[98, 101, 103, 105, 110, 115]⟩ from h3)]; simp
/-- The first of the kids with an operation, from a place on; -1: none. -/
def idxK (op : Int) (l : List Cd) (k : Nat) : Int := if k < l.length then (if (l.getD k .zero).op = op then (k : Int) else idxK op l (k + 1)) else -1
  termination_by l.length - k
theorem idxK_any (op : Int) (l : List Cd) : ∀ (n k : Nat), l.length - k < n → decide (0 ≤ idxK op l k) = anyK op l k
  | 0, k, h => by omega
  | n + 1, k, h => by
    rw [idxK]
    split
    · rename_i h1
      split
      · rename_i h2
        rw [anyK_yes h1 h2, decide_eq_true (by omega)]
      · rename_i h2
        rw [anyK_next h1 h2]
        exact idxK_any op l n (k + 1) (by omega)
    · rw [anyK_end (by omega)]
      rfl
theorem cmpB_nil (l : List UInt8) : Lib.compareBytes l [] = 0 ↔ l = [] := by cases l <;> simp [Lib.compareBytes]
theorem cmpV_zero (v : Vu) : cmpV v .zero = 0 ↔ zeroP v := by
  rw [cmpV_eq]
  unfold cmpH zeroP
  have e1 : sgn v.kind Vu.zero.kind = 0 ↔ v.kind = 0 := by show sgn v.kind 0 = 0 ↔ _; unfold sgn; split <;> (try split) <;> omega
  have e2 : sgn (bitI v.b) (bitI Vu.zero.b) = 0 ↔ v.b = false := by show sgn (bitI v.b) 0 = 0 ↔ _; cases v.b <;> simp [sgn, bitI]
  have e3 : sgn v.i Vu.zero.i = 0 ↔ v.i = 0 := by show sgn v.i 0 = 0 ↔ _; unfold sgn; split <;> (try split) <;> omega
  have e4 : cmpS v.text Vu.zero.text = 0 ↔ v.text = ⟨#[]⟩ := by
    show Lib.compareBytes v.text.data.toList [] = 0 ↔ _
    rw [cmpB_nil]
    cases v.text with | mk d => cases d with | mk l => simp
  have e5 : cmpK v.keys Vu.zero.keys 0 = 0 ↔ v.keys.length = 0 := by
    rw [cmpK_end (fun h => by exact absurd h.2 (Nat.not_lt_zero _))]
    show sgn v.keys.length 0 = 0 ↔ _
    unfold sgn
    split <;> (try split) <;> omega
  have e6 : cmpL v.items Vu.zero.items = 0 ↔ v.items.length = 0 := by
    show cmpL v.items [] = 0 ↔ _
    cases v.items <;> simp [cmpL]
  grind
section
variable (E : Env)
set_option maxRecDepth 100000
theorem index_sp (l : List ByteArray) (x : ByteArray) : Sp (cx Tryz.prog mixed tyT_ok E) 179 [encStrs l, dS x] (i64 (idxS l x 0)) := by
  obtain ⟨r, hr⟩ : ∃ r, r = idxS l x 0 := ⟨_, rfl⟩
  rw [← hr]
  refine Sp.body Tryz.func179 (by kernel_rfl) rfl (by kernel_rfl) (by kernel_rfl) (by kernel_rfl) ?_
  repeat' first
    | (refine facW_intro ?_; intro _)
    | refine Or.inl ?_
    | ((conv => whnf); first | (refine condW_dec ?_ ?_ <;> intro _) | refine condW_not ?_ | (refine condW_bool ?_ ?_ <;> intro _) | (refine nbC_t (fun _ => ?_) ?_) | (refine nbC_f ?_ (fun _ => ?_)))
    | refine And.intro (by first | omega | (simp only [Int.toNat_natCast] at *; omega) | (simp only [Nat.reduceAdd, Int.cast_ofNat_Int, true_and, and_true]; omega)  | kernel_rfl) ?_
    | refine RegW.run ?_
    | fail
  refine ⟨Nat, fun k => [(8, i64 k)], fun k => [], [], fun k => [], fun k => k ≤ l.length ∧ r = idxS l x k, fun k => l.length - k, ⟨0, ⟨by omega, hr⟩, ⟨[], ⟨by kernel_rfl, by kernel_rfl, by kernel_rfl, by kernel_rfl, by kernel_rfl, by kernel_rfl, by kernel_rfl⟩, (by repeat' first | exact trivial | exact rfl | kernel_rfl | exact Dle.of_eq rfl | exact MLe.of_eq rfl | exact Dle.i (by omega) | exact Dle.i (by simp only [Int.toNat_natCast] at *; omega) | exact Dle.nil | exact Dle.rc Dle.nil | exact Option.some_ne_none _ | exact Or.inl rfl | exact Or.inr trivial | omega | (simp only [Int.toNat_natCast] at *; omega) | (intro _ _ _ _; exact Dle.of_eq rfl) | refine And.intro ?_ ?_)⟩⟩, fun k hk => ?_⟩
  obtain ⟨hk, hK⟩ := hk
  repeat' first
    | (refine facW_intro ?_; intro _)
    | refine Or.inl ?_
    | ((conv => whnf); first | (refine condW_dec ?_ ?_ <;> intro _) | refine condW_not ?_ | (refine condW_bool ?_ ?_ <;> intro _) | (refine nbC_t (fun _ => ?_) ?_) | (refine nbC_f ?_ (fun _ => ?_)))
    | refine And.intro (by first | omega | (simp only [Int.toNat_natCast] at *; omega) | (simp only [Nat.reduceAdd, Int.cast_ofNat_Int, true_and, and_true]; omega)  | kernel_rfl) ?_
    | refine RegW.run ?_
    | fail
  all_goals first
    | exact ⟨k + 1, ⟨by omega, by rw [hK, idxS_next (by omega) (by simp only [Int.toNat_natCast] at *; first | assumption | (rw [show ((k : Int) - 1).toNat = k - 1 by omega] at *; assumption))]⟩, ⟨[], ⟨by kernel_rfl, by kernel_rfl, by kernel_rfl, by kernel_rfl, by kernel_rfl, by kernel_rfl, by kernel_rfl⟩, (by repeat' first | exact trivial | exact rfl | kernel_rfl | exact Dle.of_eq rfl | exact MLe.of_eq rfl | exact Dle.i (by omega) | exact Dle.i (by simp only [Int.toNat_natCast] at *; omega) | exact Dle.nil | exact Dle.rc Dle.nil | exact Option.some_ne_none _ | exact Or.inl rfl | exact Or.inr trivial | omega | (simp only [Int.toNat_natCast] at *; omega) | (intro _ _ _ _; exact Dle.of_eq rfl) | refine And.intro ?_ ?_)⟩, by first | omega | (dsimp only; omega)⟩
    | exact Dle.i (by rw [hK, idxS_at (by omega) (by simp only [Int.toNat_natCast] at *; first | assumption | (rw [show ((k : Int) - 1).toNat = k - 1 by omega] at *; assumption))])
    | exact Dle.i (by rw [hK, idxS_end (by omega)])
    | trace_state
theorem containsW_sp (s : ByteArray) : Sp (cx Tryz.prog mixed tyT_ok E) 132 [encStrs resWords, dS s] (dB (resB s)) := by
  have hi := index_sp E resWords s
  rw [← res_idx]
  generalize idxS resWords s 0 = r at hi
  generalize resWords = l at hi
  refine Sp.body Tryz.func132 (by kernel_rfl) rfl (by kernel_rfl) (by kernel_rfl) (by kernel_rfl) ?_
  repeat' first
    | (refine facW_intro ?_; intro _)
    | refine Or.inl ?_
    | ((conv => whnf); first | (refine condW_dec ?_ ?_ <;> intro _) | refine condW_not ?_ | (refine condW_bool ?_ ?_ <;> intro _) | (refine nbC_t (fun _ => ?_) ?_) | (refine nbC_f ?_ (fun _ => ?_)))
    | refine And.intro (by first | omega | (simp only [Int.toNat_natCast] at *; omega) | (simp only [Nat.reduceAdd, Int.cast_ofNat_Int, true_and, and_true]; omega)  | kernel_rfl) ?_
    | refine RegW.run ?_
    | refine ⟨_, hi, ?_⟩
    | fail
  all_goals exact Dle.refl _ _
theorem kidOp_sp (c k : Cd) : Sp (cx Tryz.prog mixed tyT_ok E) 129 [encC k, .ref 9 (fun j => ([i64 c.op, dS c.route, i64 c.value.kind, dB c.value.b, i64 c.value.i, dS c.value.text, .rc (.vals c.value.items), encStrs c.value.keys, .rc (.conds c.kids)] : List DD).getD (0 + j) .opq)] (dB (decide (k.op = c.op))) := by
  refine Sp.body Tryz.func129 (by kernel_rfl) rfl (by kernel_rfl) (by kernel_rfl) (by kernel_rfl) ?_
  repeat' first
    | (refine facW_intro ?_; intro _)
    | refine Or.inl ?_
    | ((conv => whnf); first | (refine condW_dec ?_ ?_ <;> intro _) | refine condW_not ?_ | (refine condW_bool ?_ ?_ <;> intro _) | (refine nbC_t (fun _ => ?_) ?_) | (refine nbC_f ?_ (fun _ => ?_)))
    | refine And.intro (by first | omega | (simp only [Int.toNat_natCast] at *; omega) | (simp only [Nat.reduceAdd, Int.cast_ofNat_Int, true_and, and_true]; omega)  | kernel_rfl) ?_
    | refine RegW.run ?_
    | fail
  all_goals first
    | exact Dle.refl _ _
    | trace_state
theorem indexK_sp (c : Cd) (l : List Cd) : Sp (cx Tryz.prog mixed tyT_ok E) 176 [.rc (.conds l), .fn 129 [.ref 9 (fun j => ([i64 c.op, dS c.route, i64 c.value.kind, dB c.value.b, i64 c.value.i, dS c.value.text, .rc (.vals c.value.items), encStrs c.value.keys, .rc (.conds c.kids)] : List DD).getD (0 + j) .opq)]] (i64 (idxK c.op l 0)) := by
  obtain ⟨r, hr⟩ : ∃ r, r = idxK c.op l 0 := ⟨_, rfl⟩
  rw [← hr]
  refine Sp.body Tryz.func176 (by kernel_rfl) rfl (by kernel_rfl) (by kernel_rfl) (by kernel_rfl) ?_
  repeat' first
    | (refine facW_intro ?_; intro _)
    | refine Or.inl ?_
    | ((conv => whnf); first | (refine condW_dec ?_ ?_ <;> intro _) | refine condW_not ?_ | (refine condW_bool ?_ ?_ <;> intro _) | (refine nbC_t (fun _ => ?_) ?_) | (refine nbC_f ?_ (fun _ => ?_)))
    | refine And.intro (by first | omega | (simp only [Int.toNat_natCast] at *; omega) | (simp only [Nat.reduceAdd, Int.cast_ofNat_Int, true_and, and_true]; omega)  | kernel_rfl) ?_
    | refine RegW.run ?_
    | fail
  refine ⟨Nat, fun k => [(8, i64 k)], fun k => [], [], fun k => [], fun k => k ≤ l.length ∧ r = idxK c.op l k, fun k => l.length - k, ⟨0, ⟨by omega, hr⟩, ⟨[], ⟨by kernel_rfl, by kernel_rfl, by kernel_rfl, by kernel_rfl, by kernel_rfl, by kernel_rfl, by kernel_rfl⟩, (by repeat' first | exact trivial | exact rfl | kernel_rfl | exact Dle.of_eq rfl | exact MLe.of_eq rfl | exact Dle.i (by omega) | exact Dle.i (by simp only [Int.toNat_natCast] at *; omega) | exact Dle.nil | exact Dle.rc Dle.nil | exact Option.some_ne_none _ | exact Or.inl rfl | exact Or.inr trivial | omega | (simp only [Int.toNat_natCast] at *; omega) | (intro _ _ _ _; exact Dle.of_eq rfl) | refine And.intro ?_ ?_)⟩⟩, fun k hk => ?_⟩
  obtain ⟨hk, hK⟩ := hk
  rw [idxK] at hK
  by_cases hlt : k < l.length
  · rw [if_pos hlt] at hK
    repeat' first
      | (refine facW_intro ?_; intro _)
      | refine Or.inl ?_
      | ((conv => whnf); first | (refine condW_dec ?_ ?_ <;> intro _ <;> try (exfalso; omega)) | refine condW_not ?_ | (refine condW_bool ?_ ?_ <;> intro _ <;> try (exfalso; omega)) | (refine nbC_t (fun _ => ?_) ?_) | (refine nbC_f ?_ (fun _ => ?_)))
      | refine And.intro (by first | omega | (simp only [Int.toNat_natCast] at *; omega) | (simp only [Nat.reduceAdd, Int.cast_ofNat_Int, true_and, and_true]; omega)  | kernel_rfl) ?_
      | refine RegW.run ?_
      | refine ⟨_, kidOp_sp E c _, ?_⟩
      | fail
    all_goals first
      | (rename_i h
         have h : ¬ (l.getD k .zero).op = c.op := h
         exact ⟨k + 1, ⟨by omega, by rw [hK, if_neg h]⟩, ⟨[], ⟨by kernel_rfl, by kernel_rfl, by kernel_rfl, by kernel_rfl, by kernel_rfl, by kernel_rfl, by kernel_rfl⟩, (by repeat' first | exact trivial | exact rfl | kernel_rfl | exact Dle.of_eq rfl | exact MLe.of_eq rfl | exact Dle.i (by omega) | exact Dle.i (by simp only [Int.toNat_natCast] at *; omega) | exact Dle.nil | exact Dle.rc Dle.nil | exact Option.some_ne_none _ | exact Or.inl rfl | exact Or.inr trivial | omega | (simp only [Int.toNat_natCast] at *; omega) | (intro _ _ _ _; exact Dle.of_eq rfl) | refine And.intro ?_ ?_)⟩, by first | omega | (dsimp only; omega)⟩)
      | (rename_i h
         have h : (l.getD k .zero).op = c.op := h
         exact Dle.i (by rw [hK, if_pos h]))
      | trace_state
  · rw [if_neg hlt] at hK
    repeat' first
      | (refine facW_intro ?_; intro _)
      | refine Or.inl ?_
      | ((conv => whnf); first | (refine condW_dec ?_ ?_ <;> intro _ <;> try (exfalso; omega)) | refine condW_not ?_ | (refine condW_bool ?_ ?_ <;> intro _ <;> try (exfalso; omega)) | (refine nbC_t (fun _ => ?_) ?_) | (refine nbC_f ?_ (fun _ => ?_)))
      | refine And.intro (by first | omega | (simp only [Int.toNat_natCast] at *; omega) | (simp only [Nat.reduceAdd, Int.cast_ofNat_Int, true_and, and_true]; omega)  | kernel_rfl) ?_
      | refine RegW.run ?_
      | fail
    exact Dle.i (by rw [hK])
theorem containsK_sp (c : Cd) (l : List Cd) : Sp (cx Tryz.prog mixed tyT_ok E) 128 [.rc (.conds l), .fn 129 [.ref 9 (fun j => ([i64 c.op, dS c.route, i64 c.value.kind, dB c.value.b, i64 c.value.i, dS c.value.text, .rc (.vals c.value.items), encStrs c.value.keys, .rc (.conds c.kids)] : List DD).getD (0 + j) .opq)]] (dB (anyK c.op l 0)) := by
  have hi := indexK_sp E c l
  rw [← idxK_any c.op l (l.length + 1) 0 (by omega)]
  generalize idxK c.op l 0 = r at hi
  refine Sp.body Tryz.func128 (by kernel_rfl) rfl (by kernel_rfl) (by kernel_rfl) (by kernel_rfl) ?_
  repeat' first
    | (refine facW_intro ?_; intro _)
    | refine Or.inl ?_
    | ((conv => whnf); first | (refine condW_dec ?_ ?_ <;> intro _) | refine condW_not ?_ | (refine condW_bool ?_ ?_ <;> intro _) | (refine nbC_t (fun _ => ?_) ?_) | (refine nbC_f ?_ (fun _ => ?_)))
    | refine And.intro (by first | omega | (simp only [Int.toNat_natCast] at *; omega) | (simp only [Nat.reduceAdd, Int.cast_ofNat_Int, true_and, and_true]; omega)  | kernel_rfl) ?_
    | refine RegW.run ?_
    | refine ⟨_, hi, ?_⟩
    | fail
  all_goals exact Dle.refl _ _
theorem sameZero_sp (v : Vu) : Sp (cx Tryz.prog mixed tyT_ok E) 130 [encV v, .agg [i64 0, dB false, i64 0, dS ⟨#[]⟩, .v (.slice none 0 0), .v (.slice none 0 0)]] (dB (decide (zeroP v))) := by
  have h1 := compareOf_sp E _ v .zero (Nat.lt_succ_self _)
  have hz := cmpV_zero v
  have he : decide (zeroP v) = decide (cmpV v .zero = 0) := by rw [Bool.eq_iff_iff]; simp [hz]
  rw [he]
  generalize cmpV v .zero = r at h1
  have h0 : Sp (cx Tryz.prog mixed tyT_ok E) 130 [encV v, encV .zero] (dB (decide (r = 0))) := by
    refine Sp.body Tryz.func130 (by kernel_rfl) rfl (by kernel_rfl) (by kernel_rfl) (by kernel_rfl) ?_
    repeat' first
      | (refine facW_intro ?_; intro _)
      | refine Or.inl ?_
      | ((conv => whnf); first | (refine condW_dec ?_ ?_ <;> intro _) | refine condW_not ?_ | (refine condW_bool ?_ ?_ <;> intro _) | (refine nbC_t (fun _ => ?_) ?_) | (refine nbC_f ?_ (fun _ => ?_)))
      | refine And.intro (by first | omega | (simp only [Int.toNat_natCast] at *; omega) | (simp only [Nat.reduceAdd, Int.cast_ofNat_Int, true_and, and_true]; omega)  | kernel_rfl) ?_
      | refine RegW.run ?_
      | refine ⟨_, h1, ?_⟩
      | fail
    all_goals exact Dle.refl _ _
  exact h0.args ⟨Dle.refl _ _, Dle.agg ⟨Dle.refl _ _, Dle.refl _ _, Dle.refl _ _, Dle.refl _ _, Dle.rc (X := (cx Tryz.prog mixed tyT_ok E)) Dle.nil, Dle.nil (X := (cx Tryz.prog mixed tyT_ok E)), trivial⟩, trivial⟩
end
end Go.Proofs.YtemiaognopgnnaaGreatDoor
