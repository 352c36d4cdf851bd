/-
  list.valueFault, valuesFault, CheckItem.
-/
import Derived.Test.YthoemnhigboahaaGreatDoorR1
namespace Go.Proofs.YthoemnhigboahaaGreatDoor
open Go.RowKit
set_option linter.unusedVariables false
set_option linter.unusedSimpArgs false
section
variable (E : Env)
set_option maxRecDepth 100000
theorem zero_cells (i j : Nat) (hj : j < 6) : Dle (cx Tryz.prog mixed tyT_ok E) ((fun _ j => .v ((#[.int .i64 0, .bool false, .int .i64 0, .string ⟨#[]⟩, .slice none 0 0, .slice none 0 0] : Array Value).getD j undef)) i j) (Vu.zero.cell j) := by
  match j, hj with
  | 0, _ => exact Dle.refl _ _
  | 1, _ => exact Dle.refl _ _
  | 2, _ => exact Dle.refl _ _
  | 3, _ => exact Dle.refl _ _
  | 4, _ => exact Dle.rc (X := (cx Tryz.prog mixed tyT_ok E)) Dle.nil
  | 5, _ => exact Dle.nil (X := (cx Tryz.prog mixed tyT_ok E))
theorem cnt_flat (k : Int) (b : Bool) (i : Int) (t : ByteArray) (n : Nat) (ks : List ByteArray) : cnt (.mk k b i t (List.replicate n .zero) ks) = n + 1 := by
  have hz : cnt .zero = 1 := by simp [Vu.zero, cnt, cntL]
  have h1 : ∀ n, cntL (List.replicate n .zero) = n := by
    intro n
    induction n with
    | zero => rfl
    | succ n ih => rw [List.replicate_succ, cntL, ih, hz]; omega
  simp only [cnt, h1]
theorem checkR_sp (k : Int) (b : Bool) (i : Int) (t : ByteArray) (n : Nat) (F : Nat → Nat → DD) (ks : List ByteArray) (hn : n ≤ 999) (hF : ∀ i j, i < n → j < 6 → Dle (cx Tryz.prog mixed tyT_ok E) (F i j) (Vu.zero.cell j)) :
    Sp (cx Tryz.prog mixed tyT_ok E) 150 [.agg [i64 k, dB b, i64 i, dS t, .sl 6 88 n F, encStrs ks]] (i64 (headP k b i t n ks)) := by
  have h := check_sp E (.mk k b i t (List.replicate n .zero) ks) (by rw [cnt_flat]; omega)
  rw [check_flat k b i t n ks hn] at h
  refine h.args ⟨Dle.agg (X := (cx Tryz.prog mixed tyT_ok E)) ⟨Dle.refl _ _, Dle.refl _ _, Dle.refl _ _, Dle.refl _ _, Dle.rc (X := (cx Tryz.prog mixed tyT_ok E)) (Dle.sl (X := (cx Tryz.prog mixed tyT_ok E)) (by show n = (List.replicate n Vu.zero).length; simp) (fun i j hi hj => (hF i j hi hj).trans (Dle.of_eq ?_))), Dle.refl _ _, trivial⟩, trivial⟩
  show Vu.zero.cell j = ((List.replicate n Vu.zero).getD i .zero).cell j
  simp [List.getD, hi]
theorem checkN_sp (k : Int) (b : Bool) (i : Int) (t : ByteArray) (ks : List ByteArray) :
    Sp (cx Tryz.prog mixed tyT_ok E) 150 [.agg [i64 k, dB b, i64 i, dS t, .v (.slice none 0 0), encStrs ks]] (i64 (headP k b i t 0 ks)) :=
  (checkR_sp E k b i t 0 (fun _ _ => .opq) ks (by omega) (fun i j hi => by omega)).args ⟨Dle.agg (X := (cx Tryz.prog mixed tyT_ok E)) ⟨Dle.refl _ _, Dle.refl _ _, Dle.refl _ _, Dle.refl _ _, Dle.nil, Dle.refl _ _, trivial⟩, trivial⟩
theorem checkV_sp (v : Vu) (h : ¬ 0 < (v.items.length : Int)) : Sp (cx Tryz.prog mixed tyT_ok E) 150 [.agg [i64 v.kind, dB v.b, i64 v.i, dS v.text, .rc (.vals v.items), encStrs v.keys]] (i64 (headP v.kind v.b v.i v.text 0 v.keys)) := by
  have e : v = .mk v.kind v.b v.i v.text (List.replicate 0 .zero) v.keys := by
    have := v.eta
    rw [List.eq_nil_of_length_eq_zero (by omega : v.items.length = 0)] at this
    exact this
  have hc : cnt v = 1 := by rw [e]; simp [cnt, cntL]
  have h1 := check_sp E v (by omega)
  have h2 := check_flat v.kind v.b v.i v.text 0 v.keys (by omega)
  rw [← e] at h2
  rw [h2] at h1
  exact h1
set_option maxHeartbeats 1000000 in
theorem l_valueFault_sp (v : Vu) : Sp (cx Tryz.prog mixed tyT_ok E) 134 [encV v] (i64 (headI v)) := by
  have hP := headI_P v
  have hS : ∀ k, k = v.kind → skind v.kind = if k = 7 ∨ k = 8 then 3 else k := fun k e => by rw [e]; rfl
  refine Sp.body Tryz.func134 (by kernel_rfl) rfl (by kernel_rfl) (by kernel_rfl) (by kernel_rfl) ?_
  repeat' first
    | (refine facW_intro ?_; intro _)
    | refine Or.inl ?_
    | ((conv => whnf); first | (refine condW_dec ?_ ?_ <;> intro _) | refine condW_not ?_ | (refine condW_bool ?_ ?_ <;> intro _) | (refine nbC_t (fun _ => ?_) ?_) | (refine nbC_f ?_ (fun _ => ?_)))
    | refine And.intro (by first | omega | (simp only [Int.toNat_natCast] at *; omega) | (simp only [Nat.reduceAdd, Int.cast_ofNat_Int, true_and, and_true]; omega)  | kernel_rfl) ?_
    | refine RegW.run ?_
    | refine ⟨_, tableFault_sp E v (by omega), ?_⟩
    | refine ⟨_, checkN_sp E _ _ _ _ _, ?_⟩
    | refine ⟨_, checkV_sp E v (by assumption), ?_⟩
    | refine ⟨_, checkR_sp E _ _ _ _ _ _ _ (by omega) (fun i j _ hj => zero_cells E i j hj), ?_⟩
    | fail
  all_goals first
    | (exfalso; omega)
    | exact Dle.i (by rw [hP]; unfold headP skind; grind)
    | exact Dle.i (by rw [hP]; unfold skind; grind)
    | exact Dle.i (by rw [hP, hS _ rfl]; grind)
    | exact Dle.i (by rw [hP])
    | (simp only [Int.toNat_natCast] at *; exact Dle.i (by rw [hP]))
    | (simp only [Int.toNat_natCast] at *; exact Dle.i (by rw [hP]; unfold skind; grind))
theorem l_valuesFault_sp : ∀ (N : Nat) (v : Vu), SizeOf.sizeOf v < N → Sp (cx Tryz.prog mixed tyT_ok E) 112 [encV v] (i64 (itemE v))
  | 0, v, h => by omega
  | N + 1, v, h => by
    have ih := fun x (hx : x ∈ v.items) => l_valuesFault_sp N x (by have := items_lt v x hx; omega)
    refine Sp.body Tryz.func112 (by kernel_rfl) rfl (by kernel_rfl) (by kernel_rfl) (by kernel_rfl) ?_
    repeat' first
      | (refine facW_intro ?_; intro _)
      | refine Or.inl ?_
      | ((conv => whnf); first | (refine condW_dec ?_ ?_ <;> intro _) | refine condW_not ?_ | (refine condW_bool ?_ ?_ <;> intro _) | (refine nbC_t (fun _ => ?_) ?_) | (refine nbC_f ?_ (fun _ => ?_)))
      | refine And.intro (by first | omega | (simp only [Int.toNat_natCast] at *; omega) | (simp only [Nat.reduceAdd, Int.cast_ofNat_Int, true_and, and_true]; omega)  | kernel_rfl) ?_
      | refine RegW.run ?_
      | refine ⟨_, l_valueFault_sp E v, ?_⟩
      | fail
    · refine ⟨Nat, fun k => [(15, i64 k)], fun k => [], [], fun k => [], fun k => k ≤ v.items.length ∧ itemE v = itemL (v.items.drop k), fun k => v.items.length - k, ⟨0, ⟨by omega, by rw [itemE_eq, if_pos (by assumption)]; rfl⟩, ⟨[], ⟨by kernel_rfl, by kernel_rfl, by kernel_rfl, by kernel_rfl, by kernel_rfl, by kernel_rfl, by kernel_rfl⟩, (by repeat' first | exact trivial | exact rfl | kernel_rfl | exact Dle.of_eq rfl | exact MLe.of_eq rfl | exact Dle.i (by omega) | exact Dle.i (by simp only [Int.toNat_natCast] at *; omega) | exact Dle.nil | exact Dle.rc Dle.nil | exact Option.some_ne_none _ | exact Or.inl rfl | exact Or.inr trivial | omega | (simp only [Int.toNat_natCast] at *; omega) | (intro _ _ _ _; exact Dle.of_eq rfl) | refine And.intro ?_ ?_)⟩⟩, fun k hk => ?_⟩
      obtain ⟨hk, hK⟩ := hk
      refine Or.inl ?_
      refine condW_dec ?_ ?_
      · intro hlt
        have hlt : k < v.items.length := by omega
        repeat' first
          | (refine facW_intro ?_; intro _)
          | refine Or.inl ?_
          | ((conv => whnf); first | (refine condW_dec ?_ ?_ <;> intro _) | refine condW_not ?_ | (refine condW_bool ?_ ?_ <;> intro _) | (refine nbC_t (fun _ => ?_) ?_) | (refine nbC_f ?_ (fun _ => ?_)))
          | refine And.intro (by first | omega | (simp only [Int.toNat_natCast] at *; omega) | (simp only [Nat.reduceAdd, Int.cast_ofNat_Int, true_and, and_true]; omega)  | kernel_rfl) ?_
          | refine RegW.run ?_
          | refine ⟨_, ih _ (getD_mem v.items .zero k hlt), ?_⟩
          | fail
        · refine ⟨k + 1, ⟨by omega, ?_⟩, ⟨[], ⟨by kernel_rfl, by kernel_rfl, by kernel_rfl, by kernel_rfl, by kernel_rfl, by kernel_rfl, by kernel_rfl⟩, (by repeat' first | exact trivial | exact rfl | kernel_rfl | exact Dle.of_eq rfl | exact MLe.of_eq rfl | exact Dle.i (by omega) | exact Dle.i (by simp only [Int.toNat_natCast] at *; omega) | exact Dle.nil | exact Dle.rc Dle.nil | exact Option.some_ne_none _ | exact Or.inl rfl | exact Or.inr trivial | omega | (simp only [Int.toNat_natCast] at *; omega) | (intro _ _ _ _; exact Dle.of_eq rfl) | refine And.intro ?_ ?_)⟩, by first | omega | (dsimp only; omega)⟩
          rw [hK, itemL_drop hlt, if_pos (by simp only [Int.toNat_natCast] at *; first | assumption | (rw [show ((k : Int) - 1).toNat = k - 1 by omega] at *; assumption))]
        · refine Dle.i ?_
          rw [hK, itemL_drop hlt, if_neg (by simp only [Int.toNat_natCast] at *; first | assumption | (rw [show ((k : Int) - 1).toNat = k - 1 by omega] at *; assumption))]
          rfl
      · intro hge
        repeat' first
          | (refine facW_intro ?_; intro _)
          | refine Or.inl ?_
          | ((conv => whnf); first | (refine condW_dec ?_ ?_ <;> intro _) | refine condW_not ?_ | (refine condW_bool ?_ ?_ <;> intro _) | (refine nbC_t (fun _ => ?_) ?_) | (refine nbC_f ?_ (fun _ => ?_)))
          | refine And.intro (by first | omega | (simp only [Int.toNat_natCast] at *; omega) | (simp only [Nat.reduceAdd, Int.cast_ofNat_Int, true_and, and_true]; omega)  | kernel_rfl) ?_
          | refine RegW.run ?_
          | fail
        exact Dle.i (by rw [hK, itemL_end (by omega)])
    · exact Dle.i (by rw [itemE_eq, if_neg (by assumption)])
theorem checkItem_sp (v : Vu) (hb : cnt v ≤ 4611686018427387904) : Sp (cx Tryz.prog mixed tyT_ok E) 85 [encV v] (i64 (itemCheckE v)) := by
  have hl := lvl_le_cnt v
  have hc := cq_cnt 5000 v
  refine Sp.body Tryz.func85 (by kernel_rfl) rfl (by kernel_rfl) (by kernel_rfl) (by kernel_rfl) ?_
  repeat' first
    | (refine facW_intro ?_; intro _)
    | refine Or.inl ?_
    | ((conv => whnf); first | (refine condW_dec ?_ ?_ <;> intro _) | refine condW_not ?_ | (refine condW_bool ?_ ?_ <;> intro _) | (refine nbC_t (fun _ => ?_) ?_) | (refine nbC_f ?_ (fun _ => ?_)))
    | refine And.intro (by first | omega | (simp only [Int.toNat_natCast] at *; omega) | (simp only [Nat.reduceAdd, Int.cast_ofNat_Int, true_and, and_true]; omega)  | kernel_rfl) ?_
    | refine RegW.run ?_
    | refine ⟨_, l_count_sp E _ v (Nat.lt_succ_self _) hb, ?_⟩
    | refine ⟨_, l_levels_sp E _ v (Nat.lt_succ_self _) (by omega), ?_⟩
    | refine ⟨_, l_valuesFault_sp E _ v (Nat.lt_succ_self _), ?_⟩
    | fail
  all_goals exact Dle.i (by unfold itemCheckE; grind)
end
end Go.Proofs.YthoemnhigboahaaGreatDoor
