/-
  Searches of keys; conf.find, conf.clone.
-/
import Derived.Test.YtdpbgpkjlbdbfaaGreatDoorPV
import Derived.Test.YtdpbgpkjlbdbfaaGreatDoorQ8
import Derived.Test.YtdpbgpkjlbdbfaaGreatDoorS0
namespace Go.Proofs.YtdpbgpkjlbdbfaaGreatDoor
open Go.RowKit
set_option linter.unusedVariables false
set_option linter.unusedSimpArgs false
theorem len_le_sum : ∀ l : List ByteArray, l.length ≤ (l.map fun s => s.size + 1).sum
  | [] => Nat.zero_le _
  | x :: r => by
    have := len_le_sum r
    simp only [List.length_cons, List.map_cons, List.sum_cons]
    omega
theorem keys_le_wt (v : Vu) : v.keys.length ≤ v.wt := by
  cases v with | mk k b i t l ks => have := len_le_sum ks; simp only [Vu.wt, Vu.keys]; omega
theorem wtL_le_wt (v : Vu) : Vu.wtL v.items + 1 ≤ v.wt := by
  cases v with | mk k b i t l ks => simp only [Vu.wt, Vu.items]; omega
theorem len_le_wtL : ∀ l : List Vu, l.length ≤ Vu.wtL l
  | [] => Nat.zero_le _
  | x :: r => by
    have := len_le_wtL r
    have := cnt_le_wt x
    have h : 1 ≤ cnt x := by rw [cnt_eq]; omega
    simp only [List.length_cons, Vu.wtL]
    omega
theorem wt_mem : ∀ (l : List Vu) (x : Vu), x ∈ l → x.wt ≤ Vu.wtL l
  | a :: l, x, h => by
    rcases List.mem_cons.1 h with rfl | h
    · simp [Vu.wtL]
    · have := wt_mem l x h; simp [Vu.wtL]; omega
/-- Where a table has a key, or would have it; whether it has it. -/
def findK (v : Vu) (k : ByteArray) : Nat := bsr v.keys k 0 v.keys.length
def hasK (v : Vu) (k : ByteArray) : Bool := decide (findK v k < v.keys.length) && decide (v.keys.getD (findK v k) ⟨#[]⟩ = k)
section
variable (E : Env)
set_option maxRecDepth 100000
theorem searchLit_sp (l : List ByteArray) (x : ByteArray) (h : Nat) (hl : h < l.length) :
    Sp (cx Tryz.prog mixed tyT_ok E) 247 [i64 h, .ref 1 (fun j => ([encStrs l] : List DD).getD (0 + j) .opq), .ref 1 (fun j => ([dS x] : List DD).getD (0 + j) .opq)] (dB (!strLt (l.getD h ⟨#[]⟩) x)) := by
  refine Sp.body Tryz.func247 (by kernel_rfl) rfl (by kernel_rfl) (by kernel_rfl) (by kernel_rfl) ?_
  repeat' first
    | (refine facW_intro ?_; intro _)
    | refine Or.inl ?_
    | ((conv => whnf); first | (refine condW_dec ?_ ?_ <;> intro _) | refine condW_not ?_ | (refine condW_bool ?_ ?_ <;> intro _) | (refine nbC_t (fun _ => ?_) ?_) | (refine nbC_f ?_ (fun _ => ?_)))
    | refine And.intro (by first | omega | (simp only [Int.toNat_natCast] at *; omega) | (simp only [Nat.reduceAdd, Int.cast_ofNat_Int, true_and, and_true]; omega) | kernel_rfl) ?_
    | refine RegW.run ?_
    | fail
  all_goals first
    | exact Dle.refl _ _
    | trace_state
theorem search_sp (l : List ByteArray) (x : ByteArray) (hl : l.length ≤ 1000000000000) :
    Sp (cx Tryz.prog mixed tyT_ok E) 246 [i64 l.length, .fn 247 [.ref 1 (fun j => ([encStrs l] : List DD).getD (0 + j) .opq), .ref 1 (fun j => ([dS x] : List DD).getD (0 + j) .opq)]] (i64 (bsr l x 0 l.length)) := by
  refine Sp.body Tryz.func246 (by kernel_rfl) rfl (by kernel_rfl) (by kernel_rfl) (by kernel_rfl) ?_
  refine ⟨Nat × Nat, fun k => [(5, i64 k.1), (6, i64 k.2)], fun k => [], [], fun k => [], fun k => k.1 ≤ k.2 ∧ k.2 ≤ l.length ∧ bsr l x 0 l.length = bsr l x k.1 k.2, fun k => k.2 - k.1, ⟨(0, l.length), ⟨by omega, by omega, rfl⟩, ⟨[], ⟨by kernel_rfl, by kernel_rfl, by kernel_rfl, by kernel_rfl, by kernel_rfl, by kernel_rfl, by kernel_rfl⟩, (by repeat' first | exact trivial | exact rfl | kernel_rfl | exact Dle.of_eq rfl | exact MLe.of_eq rfl | exact Dle.i (by omega) | exact Dle.i (by simp only [Int.toNat_natCast] at *; omega) | exact Dle.nil | exact Dle.rc Dle.nil | exact Option.some_ne_none _ | exact Or.inl rfl | exact Or.inr trivial | omega | (simp only [Int.toNat_natCast] at *; omega) | (intro _ _ _ _; exact Dle.of_eq rfl) | refine And.intro ?_ ?_)⟩⟩, fun k hk => ?_⟩
  obtain ⟨h1, h2, h3⟩ := hk
  have hh : (IntKind.u64.wrap ((k.1 : Int) + (k.2 : Int))).fdiv (2 ^ min (Int.toNat 1) IntKind.u64.bits) = (((k.1 + k.2) / 2 : Nat) : Int) := by
    have h4 : IntKind.u64.wrap ((k.1 : Int) + (k.2 : Int)) = (k.1 : Int) + (k.2 : Int) := by
      simp only [IntKind.wrap, IntKind.bits, IntKind.signed]
      simp
      omega
    rw [h4, show (2 : Int) ^ min (Int.toNat 1) IntKind.u64.bits = 2 by decide, Int.fdiv_eq_ediv_of_nonneg _ (by omega)]
    omega
  have h5 : IntKind.i64.wrap ((((k.1 + k.2) / 2 : Nat) : Int)) = (((k.1 + k.2) / 2 : Nat) : Int) := by
    simp only [IntKind.wrap, IntKind.bits, IntKind.signed]
    simp
    omega
  repeat' first
    | (refine facW_intro ?_; intro _)
    | refine Or.inl ?_
    | ((conv => whnf); first | (refine condW_dec ?_ ?_ <;> intro _) | refine condW_not ?_ | (refine condW_bool ?_ ?_ <;> intro _) | (refine nbC_t (fun _ => ?_) ?_) | (refine nbC_f ?_ (fun _ => ?_)))
    | refine And.intro (by first | omega | (simp only [Int.toNat_natCast] at *; omega) | (simp only [Nat.reduceAdd, Int.cast_ofNat_Int, true_and, and_true]; omega) | kernel_rfl) ?_
    | refine RegW.run ?_
    | fail
  · (conv => whnf)
    rw [hh, h5]
    repeat' first
      | (refine facW_intro ?_; intro _)
      | refine Or.inl ?_
      | ((conv => whnf); first | (refine condW_dec ?_ ?_ <;> intro _) | refine condW_not ?_ | (refine condW_bool ?_ ?_ <;> intro _) | (refine nbC_t (fun _ => ?_) ?_) | (refine nbC_f ?_ (fun _ => ?_)))
      | refine And.intro (by first | omega | (simp only [Int.toNat_natCast] at *; omega) | (simp only [Nat.reduceAdd, Int.cast_ofNat_Int, true_and, and_true]; omega) | kernel_rfl) ?_
      | refine RegW.run ?_
      | refine ⟨_, searchLit_sp E l x _ (by omega), ?_⟩
      | fail
    · rename_i h4
      exact ⟨((k.1 + k.2) / 2 + 1, k.2), ⟨by dsimp only; omega, h2, by rw [h3, bsr_lt (by omega) h4]⟩, ⟨[], ⟨by kernel_rfl, by kernel_rfl, by kernel_rfl, by kernel_rfl, by kernel_rfl, by kernel_rfl, by kernel_rfl⟩, (by repeat' first | exact trivial | exact rfl | kernel_rfl | exact Dle.of_eq rfl | exact MLe.of_eq rfl | exact Dle.i (by omega) | exact Dle.i (by simp only [Int.toNat_natCast] at *; omega) | exact Dle.nil | exact Dle.rc Dle.nil | exact Option.some_ne_none _ | exact Or.inl rfl | exact Or.inr trivial | omega | (simp only [Int.toNat_natCast] at *; omega) | (intro _ _ _ _; exact Dle.of_eq rfl) | refine And.intro ?_ ?_)⟩, by first | omega | (dsimp only; omega)⟩
    · rename_i h4
      exact ⟨(k.1, (k.1 + k.2) / 2), ⟨by dsimp only; omega, by dsimp only; omega, by rw [h3, bsr_ge (by omega) h4]⟩, ⟨[], ⟨by kernel_rfl, by kernel_rfl, by kernel_rfl, by kernel_rfl, by kernel_rfl, by kernel_rfl, by kernel_rfl⟩, (by repeat' first | exact trivial | exact rfl | kernel_rfl | exact Dle.of_eq rfl | exact MLe.of_eq rfl | exact Dle.i (by omega) | exact Dle.i (by simp only [Int.toNat_natCast] at *; omega) | exact Dle.nil | exact Dle.rc Dle.nil | exact Option.some_ne_none _ | exact Or.inl rfl | exact Or.inr trivial | omega | (simp only [Int.toNat_natCast] at *; omega) | (intro _ _ _ _; exact Dle.of_eq rfl) | refine And.intro ?_ ?_)⟩, by first | omega | (dsimp only; omega)⟩
  · exact Dle.i (by rw [h3, bsr_end (by omega)])
theorem searchStrings_sp (l : List ByteArray) (x : ByteArray) (hl : l.length ≤ 1000000000000) : Sp (cx Tryz.prog mixed tyT_ok E) 195 [encStrs l, dS x] (i64 (bsr l x 0 l.length)) := by
  refine Sp.body Tryz.func195 (by kernel_rfl) rfl (by kernel_rfl) (by kernel_rfl) (by kernel_rfl) ?_
  repeat' first
    | (refine facW_intro ?_; intro _)
    | refine Or.inl ?_
    | ((conv => whnf); first | (refine condW_dec ?_ ?_ <;> intro _) | refine condW_not ?_ | (refine condW_bool ?_ ?_ <;> intro _) | (refine nbC_t (fun _ => ?_) ?_) | (refine nbC_f ?_ (fun _ => ?_)))
    | refine And.intro (by first | omega | (simp only [Int.toNat_natCast] at *; omega) | (simp only [Nat.reduceAdd, Int.cast_ofNat_Int, true_and, and_true]; omega) | kernel_rfl) ?_
    | refine RegW.run ?_
    | refine ⟨_, search_sp E l x hl, ?_⟩
    | fail
  all_goals first
    | exact Dle.refl _ _
    | trace_state
theorem find_sp (v : Vu) (k : ByteArray) (hb : v.keys.length ≤ 1000000000000) : Sp (cx Tryz.prog mixed tyT_ok E) 105 [encV v, dS k] (.tup [i64 (findK v k), dB (hasK v k)]) := by
  have h1 := bsr_le v.keys k (v.keys.length + 1) 0 v.keys.length (by omega) (by omega)
  have e : findK v k = bsr v.keys k 0 v.keys.length := rfl
  refine Sp.body Tryz.func105 (by kernel_rfl) rfl (by kernel_rfl) (by kernel_rfl) (by kernel_rfl) ?_
  repeat' first
    | (refine facW_intro ?_; intro _)
    | refine Or.inl ?_
    | ((conv => whnf); first | (refine condW_dec ?_ ?_ <;> intro _) | refine condW_not ?_ | (refine condW_bool ?_ ?_ <;> intro _) | (refine nbC_t (fun _ => ?_) ?_) | (refine nbC_f ?_ (fun _ => ?_)))
    | refine And.intro (by first | omega | (simp only [Int.toNat_natCast] at *; omega) | (simp only [Nat.reduceAdd, Int.cast_ofNat_Int, true_and, and_true]; omega) | kernel_rfl) ?_
    | refine RegW.run ?_
    | refine ⟨_, searchStrings_sp E _ _ hb, ?_⟩
    | fail
  all_goals refine Dle.tup (X := (cx Tryz.prog mixed tyT_ok E)) ⟨Dle.refl _ _, Dle.bo ?_, trivial⟩
  · rename_i h
    unfold hasK
    rw [e, decide_eq_true (show bsr v.keys k 0 v.keys.length < v.keys.length by omega)]
    rfl
  · rename_i h
    unfold hasK
    rw [e, decide_eq_false (show ¬ bsr v.keys k 0 v.keys.length < v.keys.length by omega)]
    rfl
set_option maxHeartbeats 1000000 in
theorem clone_sp : ∀ (N : Nat) (v : Vu), SizeOf.sizeOf v < N → v.wt ≤ 1000000000000 → Sp (cx Tryz.prog mixed tyT_ok E) 64 [encV v] (encV v)
  | 0, v, h, _ => by omega
  | N + 1, v, h, hb => by
    have h1 := wtL_le_wt v
    have ih := fun x (hx : x ∈ v.items) => clone_sp N x (by have := items_lt v x hx; omega) (by have := wt_mem v.items x hx; omega)
    have hk := keys_le_wt v
    have hlen : v.items.length ≤ 1000000000000 := by have := len_le_wtL v.items; omega
    refine Sp.body Tryz.func64 (by kernel_rfl) rfl (by kernel_rfl) (by kernel_rfl) (by kernel_rfl) ?_
    repeat' first
      | (refine facW_intro ?_; intro _)
      | refine Or.inl ?_
      | ((conv => whnf); first | (refine condW_dec ?_ ?_ <;> intro _) | refine condW_not ?_ | (refine condW_bool ?_ ?_ <;> intro _) | (refine nbC_t (fun _ => ?_) ?_) | (refine nbC_f ?_ (fun _ => ?_)))
      | refine And.intro (by first | omega | (simp only [Int.toNat_natCast] at *; omega) | (simp only [Nat.reduceAdd, Int.cast_ofNat_Int, true_and, and_true]; omega) | kernel_rfl) ?_
      | refine RegW.run ?_
      | fail
    refine ⟨Nat, fun k => [(13, i64 k), (3, .own 13 6 0 k)], fun k => [], [1, 2, 8], fun k => [(13, 33, k, fun i j => (v.items.getD i .zero).cell j)], fun k => k ≤ v.items.length, fun k => v.items.length - k, ⟨0, by omega, ⟨[(13, none)], ⟨by kernel_rfl, by kernel_rfl, by kernel_rfl, by kernel_rfl, by kernel_rfl, by kernel_rfl, by kernel_rfl⟩, (by repeat' first | exact trivial | exact rfl | kernel_rfl | exact Dle.of_eq rfl | exact MLe.of_eq rfl | exact Dle.i (by omega) | exact Dle.i (by simp only [Int.toNat_natCast] at *; omega) | exact Dle.nil | exact Dle.rc Dle.nil | exact Option.some_ne_none _ | exact Or.inl rfl | exact Or.inr trivial | omega | (simp only [Int.toNat_natCast] at *; omega) | (intro _ _ _ _; exact Dle.of_eq rfl) | refine And.intro ?_ ?_)⟩⟩, fun k hk => ?_⟩
    have hk : k ≤ v.items.length := hk
    repeat' first
      | (refine facW_intro ?_; intro _)
      | refine Or.inl ?_
      | ((conv => whnf); first | (refine condW_dec ?_ ?_ <;> intro _) | refine condW_not ?_ | (refine condW_bool ?_ ?_ <;> intro _) | (refine nbC_t (fun _ => ?_) ?_) | (refine nbC_f ?_ (fun _ => ?_)))
      | refine And.intro (by first | omega | (simp only [Int.toNat_natCast] at *; omega) | (simp only [Nat.reduceAdd, Int.cast_ofNat_Int, true_and, and_true]; omega) | kernel_rfl) ?_
      | refine RegW.run ?_
      | refine ⟨_, ih _ (getD_mem v.items .zero k (by omega)), ?_⟩
      | fail
    · exact ⟨k + 1, by omega, ⟨[(13, some 21)], ⟨by kernel_rfl, by kernel_rfl, by kernel_rfl, by kernel_rfl, by kernel_rfl, by kernel_rfl, by kernel_rfl⟩, (by repeat' first | exact trivial | exact rfl | kernel_rfl | exact Dle.of_eq rfl | exact MLe.of_eq rfl | exact Dle.i (by omega) | exact Dle.i (by simp only [Int.toNat_natCast] at *; omega) | exact Dle.nil | exact Dle.rc Dle.nil | exact Option.some_ne_none _ | exact Or.inl rfl | exact Or.inr trivial | omega | (simp only [Int.toNat_natCast] at *; omega) | (intro _ _ _ _; exact Dle.of_eq rfl) | (intro i j hi hj; exact row_val E (fun i => v.items.getD i .zero) k i j hi hj) | refine And.intro ?_ ?_)⟩, by first | omega | (dsimp only; omega)⟩
    · have e : k = v.items.length := by omega
      subst e
      exact Dle.agg (X := (cx Tryz.prog mixed tyT_ok E)) ⟨Dle.refl _ _, Dle.refl _ _, Dle.refl _ _, Dle.refl _ _, Dle.rc (X := (cx Tryz.prog mixed tyT_ok E)) (Dle.sl (X := (cx Tryz.prog mixed tyT_ok E)) rfl (fun i j hi hj => Dle.refl _ _)), Dle.sl (X := (cx Tryz.prog mixed tyT_ok E)) rfl (fun i j hi hj => Dle.refl _ _), trivial⟩
end
end Go.Proofs.YtdpbgpkjlbdbfaaGreatDoor
