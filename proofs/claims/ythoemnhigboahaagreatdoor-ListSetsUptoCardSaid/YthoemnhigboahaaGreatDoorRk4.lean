/-
  list.clone, twoLists, Union, chosen, Meet, Minus.
-/
import Derived.Test.YthoemnhigboahaaGreatDoorRk3
namespace Go.Proofs.YthoemnhigboahaaGreatDoor
open Go.RowKit
set_option linter.unusedVariables false
set_option linter.unusedSimpArgs false
namespace rk
open sb sq
def twoE (a b : List Vu) : Int := if listE a ≠ 0 then listE a else listE b
def pk (q : Vu → Bool) (l : List Vu) (n : Nat) : List Vu := pick (fun i => fstV l i && q (l.getD i .zero)) l n
theorem len_le_sum : ∀ l : List ByteArray, l.length ≤ (l.map fun s => s.size + 1).sum
  | [] => Nat.zero_le _
  | x :: r => by
    have := len_le_sum r
    simp only [List.length_cons, List.map_cons, List.sum_cons]
    omega
theorem keys_le_wt (v : Vu) : v.keys.length ≤ v.wt := by
  cases v with | mk k b i t l ks => have := len_le_sum ks; simp only [Vu.wt, Vu.keys]; omega
theorem wtL_le_wt (v : Vu) : Vu.wtL v.items + 1 ≤ v.wt := by
  cases v with | mk k b i t l ks => simp only [Vu.wt, Vu.items]; omega
theorem len_le_wtL : ∀ l : List Vu, l.length ≤ Vu.wtL l
  | [] => Nat.zero_le _
  | x :: r => by
    have := len_le_wtL r
    have := cnt_le_wt x
    have h : 1 ≤ cnt x := by rw [cnt_eq]; omega
    simp only [List.length_cons, Vu.wtL]
    omega
theorem wt_mem : ∀ (l : List Vu) (x : Vu), x ∈ l → x.wt ≤ Vu.wtL l
  | a :: l, x, h => by
    rcases List.mem_cons.1 h with rfl | h
    · simp [Vu.wtL]
    · have := wt_mem l x h; simp [Vu.wtL]; omega
section
variable (E : Env)
set_option maxRecDepth 100000
set_option maxHeartbeats 1000000 in
theorem lclone_sp : ∀ (N : Nat) (v : Vu), SizeOf.sizeOf v < N → v.wt ≤ 1000000000000 → Sp (cx Tryz.prog mixed tyT_ok E) 20 [encV v] (encV v)
  | 0, v, h, _ => by omega
  | N + 1, v, h, hb => by
    have h1 := wtL_le_wt v
    have ih := fun x (hx : x ∈ v.items) => lclone_sp N x (by have := items_lt v x hx; omega) (by have := wt_mem v.items x hx; omega)
    have hk := keys_le_wt v
    have hlen : v.items.length ≤ 1000000000000 := by have := len_le_wtL v.items; omega
    refine Sp.body Tryz.func20 (by kernel_rfl) rfl (by kernel_rfl) (by kernel_rfl) (by kernel_rfl) ?_
    repeat' first
      | (refine codeW_cond rfl ?_; first | (refine condW_dec ?_ ?_ <;> intro _ <;> try (exfalso; omega)) | refine condW_not ?_ | (refine condW_bool ?_ ?_ <;> intro _ <;> try (exfalso; omega)))
      | (refine facW_intro ?_; intro _)
      | refine Or.inl ?_
      | ((conv => whnf); first | (refine condW_dec ?_ ?_ <;> intro _) | refine condW_not ?_ | (refine condW_bool ?_ ?_ <;> intro _) | (refine nbC_t (fun _ => ?_) ?_) | (refine nbC_f ?_ (fun _ => ?_)))
      | refine And.intro (by first | omega | (simp only [Int.toNat_natCast] at *; omega) | (simp only [Nat.reduceAdd, Int.cast_ofNat_Int, true_and, and_true]; omega)  | kernel_rfl) ?_
      | refine RegW.run ?_
      | fail
    refine ⟨Nat, fun k => [(13, i64 k), (3, .own 13 6 0 k)], fun k => [], [1, 2, 8], fun k => [(13, 30, k, fun i j => (v.items.getD i .zero).cell j)], fun k => k ≤ v.items.length, fun k => v.items.length - k, ⟨0, by omega, ⟨[(13, none)], ⟨by kernel_rfl, by kernel_rfl, by kernel_rfl, by kernel_rfl, by kernel_rfl, by kernel_rfl, by kernel_rfl⟩, (by repeat' first | exact trivial | exact rfl | kernel_rfl | exact Dle.of_eq rfl | exact MLe.of_eq rfl | exact Dle.i (by omega) | exact Dle.i (by simp only [Int.toNat_natCast] at *; omega) | exact Dle.nil | exact Dle.rc Dle.nil | exact Option.some_ne_none _ | exact Or.inl rfl | exact Or.inr trivial | omega | (simp only [Int.toNat_natCast] at *; omega) | (intro _ _ _ _; exact Dle.of_eq rfl) | refine And.intro ?_ ?_)⟩⟩, fun k hk => ?_⟩
    have hk : k ≤ v.items.length := hk
    repeat' first
      | (refine codeW_cond rfl ?_; first | (refine condW_dec ?_ ?_ <;> intro _ <;> try (exfalso; omega)) | refine condW_not ?_ | (refine condW_bool ?_ ?_ <;> intro _ <;> try (exfalso; omega)))
      | (refine facW_intro ?_; intro _)
      | refine Or.inl ?_
      | ((conv => whnf); first | (refine condW_dec ?_ ?_ <;> intro _) | refine condW_not ?_ | (refine condW_bool ?_ ?_ <;> intro _) | (refine nbC_t (fun _ => ?_) ?_) | (refine nbC_f ?_ (fun _ => ?_)))
      | refine And.intro (by first | omega | (simp only [Int.toNat_natCast] at *; omega) | (simp only [Nat.reduceAdd, Int.cast_ofNat_Int, true_and, and_true]; omega)  | kernel_rfl) ?_
      | refine RegW.run ?_
      | refine ⟨_, ih _ (getD_mem v.items .zero k (by omega)), ?_⟩
      | fail
    · exact ⟨k + 1, by omega, ⟨[(13, some 21)], ⟨by kernel_rfl, by kernel_rfl, by kernel_rfl, by kernel_rfl, by kernel_rfl, by kernel_rfl, by kernel_rfl⟩, (by repeat' first | exact trivial | exact rfl | kernel_rfl | exact Dle.of_eq rfl | exact MLe.of_eq rfl | exact Dle.i (by omega) | exact Dle.i (by simp only [Int.toNat_natCast] at *; omega) | exact Dle.nil | exact Dle.rc Dle.nil | exact Option.some_ne_none _ | exact Or.inl rfl | exact Or.inr trivial | omega | (simp only [Int.toNat_natCast] at *; omega) | (intro _ _ _ _; exact Dle.of_eq rfl) | (intro i j hi hj; exact row_val E (fun i => v.items.getD i .zero) k i j hi hj) | refine And.intro ?_ ?_)⟩, by first | omega | (dsimp only; omega)⟩
    · have e : k = v.items.length := by omega
      subst e
      exact Dle.agg (X := (cx Tryz.prog mixed tyT_ok E)) ⟨Dle.refl _ _, Dle.refl _ _, Dle.refl _ _, Dle.refl _ _, Dle.rc (X := (cx Tryz.prog mixed tyT_ok E)) (Dle.sl (X := (cx Tryz.prog mixed tyT_ok E)) rfl (fun i j hi hj => Dle.refl _ _)), Dle.sl (X := (cx Tryz.prog mixed tyT_ok E)) rfl (fun i j hi hj => Dle.refl _ _), trivial⟩
theorem twoLists_sp (a b : List Vu) (ha : Vu.wtL a ≤ 100000000) (hb : Vu.wtL b ≤ 100000000) : Sp (cx Tryz.prog mixed tyT_ok E) 18 [.rc (.vals a), .rc (.vals b)] (i64 (twoE a b)) := by
  have h1 := listFault_sp E a ha
  have h2 := listFault_sp E b hb
  obtain ⟨r, hr⟩ : ∃ r, r = twoE a b := ⟨_, rfl⟩
  rw [← hr]
  unfold twoE at hr
  generalize listE a = x at h1 hr
  generalize listE b = y at h2 hr
  by_cases hx : x = 0
  · rw [if_neg (by omega)] at hr
    rw [hr]
    refine Sp.body Tryz.func18 (by kernel_rfl) rfl (by kernel_rfl) (by kernel_rfl) (by kernel_rfl) ?_
    repeat' first
      | (refine codeW_cond rfl ?_; first | (refine condW_dec ?_ ?_ <;> intro _ <;> try (exfalso; omega)) | refine condW_not ?_ | (refine condW_bool ?_ ?_ <;> intro _ <;> try (exfalso; omega)))
      | (refine facW_intro ?_; intro _)
      | refine Or.inl ?_
      | ((conv => whnf); first | (refine condW_dec ?_ ?_ <;> intro _ <;> try (exfalso; omega)) | refine condW_not ?_ | (refine condW_bool ?_ ?_ <;> intro _ <;> try (exfalso; omega)) | (refine nbC_t (fun _ => ?_) ?_) | (refine nbC_f ?_ (fun _ => ?_)))
      | refine And.intro (by first | omega | (simp only [Int.toNat_natCast] at *; omega) | (simp only [Nat.reduceAdd, Int.cast_ofNat_Int, true_and, and_true]; omega)  | kernel_rfl) ?_
      | refine RegW.run ?_
      | refine ⟨_, h1, ?_⟩
      | refine ⟨_, h2, ?_⟩
      | fail
    all_goals first
      | exact Dle.refl _ _
      | trace_state
  · rw [if_pos hx] at hr
    rw [hr]
    refine Sp.body Tryz.func18 (by kernel_rfl) rfl (by kernel_rfl) (by kernel_rfl) (by kernel_rfl) ?_
    repeat' first
      | (refine codeW_cond rfl ?_; first | (refine condW_dec ?_ ?_ <;> intro _ <;> try (exfalso; omega)) | refine condW_not ?_ | (refine condW_bool ?_ ?_ <;> intro _ <;> try (exfalso; omega)))
      | (refine facW_intro ?_; intro _)
      | refine Or.inl ?_
      | ((conv => whnf); first | (refine condW_dec ?_ ?_ <;> intro _ <;> try (exfalso; omega)) | refine condW_not ?_ | (refine condW_bool ?_ ?_ <;> intro _ <;> try (exfalso; omega)) | (refine nbC_t (fun _ => ?_) ?_) | (refine nbC_f ?_ (fun _ => ?_)))
      | refine And.intro (by first | omega | (simp only [Int.toNat_natCast] at *; omega) | (simp only [Nat.reduceAdd, Int.cast_ofNat_Int, true_and, and_true]; omega)  | kernel_rfl) ?_
      | refine RegW.run ?_
      | refine ⟨_, h1, ?_⟩
      | refine ⟨_, h2, ?_⟩
      | fail
    all_goals first
      | exact Dle.refl _ _
      | trace_state
theorem row_vl (l : List Vu) (x : Vu) (i j : Nat) (hi : i < l.length + 1) (hj : j < 6) : Dle (cx Tryz.prog mixed tyT_ok E) (if i < l.length then (l.getD i .zero).cell j else (encV x).cells.getD ((i - l.length + 0) * 6 + j) .opq) (((l ++ [x]).getD i .zero).cell j) := by
  by_cases h : i < l.length
  · rw [if_pos h, show (l ++ [x]).getD i .zero = l.getD i .zero by simp [List.getD, List.getElem?_append_left h]]
    exact Dle.refl _ _
  · obtain rfl : i = l.length := by omega
    rw [if_neg (Nat.lt_irrefl _), show (l ++ [x]).getD l.length .zero = x by simp [List.getD], Nat.sub_self, Nat.add_zero, Nat.zero_mul, Nat.zero_add, cell_eq x j hj]
    exact Dle.refl _ _
set_option maxHeartbeats 8000000 in
theorem chosen_sp (a b : List Vu) (ha : Vu.wtL a ≤ 100000000) (hb : Vu.wtL b ≤ 100000000) (d : Bool) (hla : a.length ≤ 1000000000) (hlb : b.length ≤ 1000000000) :
    Sp (cx Tryz.prog mixed tyT_ok E) 21 [.rc (.vals a), .rc (.vals b), dB d] (.tup [.rc (.vals (if twoE a b = 0 then pk (fun v => inV b v == d) a a.length else [])), i64 (twoE a b)]) := by
  have h1 := twoLists_sp E a b ha hb
  have h2 := contains_sp E a b hla hlb
  have h3 := firsts_sp E a hla
  generalize twoE a b = e at h1
  by_cases he : e = 0
  · rw [if_pos he, he]
    rw [he] at h1
    have hl0 : (pk (fun v => inV b v == d) a 0).length = 0 := rfl
    refine Sp.body Tryz.func21 (by kernel_rfl) rfl (by kernel_rfl) (by kernel_rfl) (by kernel_rfl) ?_
    repeat' first
      | (refine codeW_cond rfl ?_; first | (refine condW_dec ?_ ?_ <;> intro _ <;> try (exfalso; omega)) | refine condW_not ?_ | (refine condW_bool ?_ ?_ <;> intro _ <;> try (exfalso; omega)))
      | (refine facW_intro ?_; intro _)
      | refine Or.inl ?_
      | ((conv => whnf); first | (refine condW_dec ?_ ?_ <;> intro _ <;> try (exfalso; omega)) | refine condW_not ?_ | (refine condW_bool ?_ ?_ <;> intro _ <;> try (exfalso; omega)) | (refine nbC_t (fun _ => ?_) ?_) | (refine nbC_f ?_ (fun _ => ?_)))
      | refine And.intro (by first | omega | (simp only [Int.toNat_natCast] at *; omega) | (simp only [Nat.reduceAdd, Int.cast_ofNat_Int, true_and, and_true]; omega)  | kernel_rfl) ?_
      | refine RegW.run ?_
      | refine ⟨_, h1, ?_⟩
      | refine ⟨_, h2, ?_⟩
      | refine ⟨_, h3, ?_⟩
      | fail
    refine ⟨Nat, fun i => [(27, i64 i), (11, .own 27 6 0 (pk (fun v => inV b v == d) a i).length)], fun i => [], [], fun i => [(27, 30, (pk (fun v => inV b v == d) a i).length, fun k j => ((pk (fun v => inV b v == d) a i).getD k .zero).cell j)], fun i => i ≤ a.length, fun i => a.length - i, ⟨0, by omega, ⟨[(27, none)], ⟨by kernel_rfl, by kernel_rfl, by kernel_rfl, by kernel_rfl, by kernel_rfl, by kernel_rfl, by kernel_rfl⟩, (by repeat' first | (exact hl0) | exact trivial | exact rfl | kernel_rfl | exact Dle.of_eq rfl | exact MLe.of_eq rfl | exact Dle.i (by omega) | exact Dle.i (by simp only [Int.toNat_natCast] at *; omega) | exact Dle.nil | exact Dle.rc Dle.nil | exact Option.some_ne_none _ | exact Or.inl rfl | exact Or.inr trivial | omega | (simp only [Int.toNat_natCast] at *; omega) | (intro _ _ _ _; exact Dle.of_eq rfl) | refine And.intro ?_ ?_)⟩⟩, fun i hi => ?_⟩
    have hi2 : i ≤ a.length := hi
    have hpl := pick_len (fun i => fstV a i && (inV b (a.getD i .zero) == d)) a i
    have hpl : (pk (fun v => inV b v == d) a i).length ≤ i := hpl
    by_cases hlt : i < a.length
    · have hw := wt_memU a _ (getD_mem a .zero i hlt)
      have c1 := lclone_sp E _ (a.getD i .zero) (Nat.lt_succ_self _) (by omega)
      have hst : pk (fun v => inV b v == d) a (i + 1) = if (fstV a i && (inV b (a.getD i .zero) == d)) = true then pk (fun v => inV b v == d) a i ++ [a.getD i .zero] else pk (fun v => inV b v == d) a i := rfl
      have hf : ∀ x, fstV a i = x → fstV a ((i : Int)).toNat = x := fun x h => by rw [Int.toNat_natCast]; exact h
      have hg : ∀ x, inV b (a.getD i .zero) = x → inV b (a.getD ((i : Int)).toNat .zero) = x := fun x h => by rw [Int.toNat_natCast]; exact h
      cases hfx : fstV a i
      · have hf := hf _ hfx
        rw [hfx, Bool.false_and, if_neg (by decide)] at hst
        have hl2 : (pk (fun v => inV b v == d) a (i + 1)).length = (pk (fun v => inV b v == d) a i).length := by rw [hst]
        repeat' first
          | (refine codeW_cond rfl ?_; first | (refine condW_dec ?_ ?_ <;> intro _ <;> try (exfalso; first | omega | exact Bool.noConfusion (hf.symm.trans (by assumption)))) | refine condW_not ?_ | (refine condW_bool ?_ ?_ <;> intro _ <;> try (exfalso; first | omega | exact Bool.noConfusion (hf.symm.trans (by assumption)))))
          | (refine facW_intro ?_; intro _)
          | refine Or.inl ?_
          | ((conv => whnf); first | (refine condW_dec ?_ ?_ <;> intro _ <;> try (exfalso; first | omega | exact Bool.noConfusion (hf.symm.trans (by assumption)))) | refine condW_not ?_ | (refine condW_bool ?_ ?_ <;> intro _ <;> try (exfalso; first | omega | exact Bool.noConfusion (hf.symm.trans (by assumption)))) | (refine nbC_t (fun _ => ?_) ?_) | (refine nbC_f ?_ (fun _ => ?_)))
          | refine And.intro (by first | omega | (simp only [Int.toNat_natCast] at *; omega) | (simp only [Nat.reduceAdd, Int.cast_ofNat_Int, true_and, and_true]; omega)  | kernel_rfl) ?_
          | refine RegW.run ?_
          | refine ⟨_, c1, ?_⟩
          | fail
        all_goals first
          | (exfalso; omega)
          | exact ⟨i + 1, hlt, ⟨[(27, some 27)], ⟨by kernel_rfl, by kernel_rfl, by kernel_rfl, by kernel_rfl, by kernel_rfl, by kernel_rfl, by kernel_rfl⟩, (by repeat' first | (exact hl2.symm) | exact trivial | exact rfl | kernel_rfl | exact Dle.of_eq rfl | exact MLe.of_eq rfl | exact Dle.i (by omega) | exact Dle.i (by simp only [Int.toNat_natCast] at *; omega) | exact Dle.nil | exact Dle.rc Dle.nil | exact Option.some_ne_none _ | exact Or.inl rfl | exact Or.inr trivial | omega | (simp only [Int.toNat_natCast] at *; omega) | (intro _ _ _ _; exact Dle.of_eq rfl) | (intro i j hi hj; (rw [hst]; exact Dle.refl _ _)) | refine And.intro ?_ ?_)⟩, by first | omega | (dsimp only; omega)⟩
          | trace_state
      · have hf := hf _ hfx
        rw [hfx, Bool.true_and] at hst
        cases hgx : inV b (a.getD i .zero) == d
        · rw [hgx, if_neg (by decide)] at hst
          have hl2 : (pk (fun v => inV b v == d) a (i + 1)).length = (pk (fun v => inV b v == d) a i).length := by rw [hst]
          have hg : ¬ inV b (a.getD ((i : Int)).toNat .zero) = d := fun h => by
            rw [Int.toNat_natCast] at h
            rw [h] at hgx
            simp at hgx
          repeat' first
            | (refine codeW_cond rfl ?_; first | (refine condW_dec ?_ ?_ <;> intro _ <;> try (exfalso; first | omega | exact Bool.noConfusion (hf.symm.trans (by assumption)) | exact absurd (by assumption) hg)) | refine condW_not ?_ | (refine condW_bool ?_ ?_ <;> intro _ <;> try (exfalso; first | omega | exact Bool.noConfusion (hf.symm.trans (by assumption)) | exact absurd (by assumption) hg)))
            | (refine facW_intro ?_; intro _)
            | refine Or.inl ?_
            | ((conv => whnf); first | (refine condW_dec ?_ ?_ <;> intro _ <;> try (exfalso; first | omega | exact Bool.noConfusion (hf.symm.trans (by assumption)) | exact absurd (by assumption) hg)) | refine condW_not ?_ | (refine condW_bool ?_ ?_ <;> intro _ <;> try (exfalso; first | omega | exact Bool.noConfusion (hf.symm.trans (by assumption)) | exact absurd (by assumption) hg)) | (refine nbC_t (fun _ => ?_) ?_) | (refine nbC_f ?_ (fun _ => ?_)))
            | refine And.intro (by first | omega | (simp only [Int.toNat_natCast] at *; omega) | (simp only [Nat.reduceAdd, Int.cast_ofNat_Int, true_and, and_true]; omega)  | kernel_rfl) ?_
            | refine RegW.run ?_
            | refine ⟨_, c1, ?_⟩
            | fail
          all_goals first
            | (exfalso; omega)
            | exact ⟨i + 1, hlt, ⟨[(27, some 27)], ⟨by kernel_rfl, by kernel_rfl, by kernel_rfl, by kernel_rfl, by kernel_rfl, by kernel_rfl, by kernel_rfl⟩, (by repeat' first | (exact hl2.symm) | exact trivial | exact rfl | kernel_rfl | exact Dle.of_eq rfl | exact MLe.of_eq rfl | exact Dle.i (by omega) | exact Dle.i (by simp only [Int.toNat_natCast] at *; omega) | exact Dle.nil | exact Dle.rc Dle.nil | exact Option.some_ne_none _ | exact Or.inl rfl | exact Or.inr trivial | omega | (simp only [Int.toNat_natCast] at *; omega) | (intro _ _ _ _; exact Dle.of_eq rfl) | (intro i j hi hj; (rw [hst]; exact Dle.refl _ _)) | refine And.intro ?_ ?_)⟩, by first | omega | (dsimp only; omega)⟩
            | trace_state
        · rw [hgx, if_pos rfl] at hst
          have hl2 : (pk (fun v => inV b v == d) a (i + 1)).length = (pk (fun v => inV b v == d) a i).length + 1 := by rw [hst]; simp
          have hg : inV b (a.getD ((i : Int)).toNat .zero) = d := by
            rw [Int.toNat_natCast]
            exact eq_of_beq hgx
          repeat' first
            | (refine codeW_cond rfl ?_; first | (refine condW_dec ?_ ?_ <;> intro _ <;> try (exfalso; first | omega | exact Bool.noConfusion (hf.symm.trans (by assumption)) | exact absurd hg (by assumption))) | refine condW_not ?_ | (refine condW_bool ?_ ?_ <;> intro _ <;> try (exfalso; first | omega | exact Bool.noConfusion (hf.symm.trans (by assumption)) | exact absurd hg (by assumption))))
            | (refine facW_intro ?_; intro _)
            | refine Or.inl ?_
            | ((conv => whnf); first | (refine condW_dec ?_ ?_ <;> intro _ <;> try (exfalso; first | omega | exact Bool.noConfusion (hf.symm.trans (by assumption)) | exact absurd hg (by assumption))) | refine condW_not ?_ | (refine condW_bool ?_ ?_ <;> intro _ <;> try (exfalso; first | omega | exact Bool.noConfusion (hf.symm.trans (by assumption)) | exact absurd hg (by assumption))) | (refine nbC_t (fun _ => ?_) ?_) | (refine nbC_f ?_ (fun _ => ?_)))
            | refine And.intro (by first | omega | (simp only [Int.toNat_natCast] at *; omega) | (simp only [Nat.reduceAdd, Int.cast_ofNat_Int, true_and, and_true]; omega)  | kernel_rfl) ?_
            | refine RegW.run ?_
            | refine ⟨_, c1, ?_⟩
            | fail
          all_goals first
            | (exfalso; omega)
            | exact ⟨i + 1, hlt, ⟨[(27, some 48)], ⟨by kernel_rfl, by kernel_rfl, by kernel_rfl, by kernel_rfl, by kernel_rfl, by kernel_rfl, by kernel_rfl⟩, (by repeat' first | (exact hl2.symm) | exact trivial | exact rfl | kernel_rfl | exact Dle.of_eq rfl | exact MLe.of_eq rfl | exact Dle.i (by omega) | exact Dle.i (by simp only [Int.toNat_natCast] at *; omega) | exact Dle.nil | exact Dle.rc Dle.nil | exact Option.some_ne_none _ | exact Or.inl rfl | exact Or.inr trivial | omega | (simp only [Int.toNat_natCast] at *; omega) | (intro _ _ _ _; exact Dle.of_eq rfl) | (intro i j hi hj; (rw [hst]; exact row_vl E _ _ i j hi hj)) | refine And.intro ?_ ?_)⟩, by first | omega | (dsimp only; omega)⟩
            | trace_state
    · obtain rfl : i = a.length := by omega
      repeat' first
        | (refine codeW_cond rfl ?_; first | (refine condW_dec ?_ ?_ <;> intro _ <;> try (exfalso; omega)) | refine condW_not ?_ | (refine condW_bool ?_ ?_ <;> intro _ <;> try (exfalso; omega)))
        | (refine facW_intro ?_; intro _)
        | refine Or.inl ?_
        | ((conv => whnf); first | (refine condW_dec ?_ ?_ <;> intro _ <;> try (exfalso; omega)) | refine condW_not ?_ | (refine condW_bool ?_ ?_ <;> intro _ <;> try (exfalso; omega)) | (refine nbC_t (fun _ => ?_) ?_) | (refine nbC_f ?_ (fun _ => ?_)))
        | refine And.intro (by first | omega | (simp only [Int.toNat_natCast] at *; omega) | (simp only [Nat.reduceAdd, Int.cast_ofNat_Int, true_and, and_true]; omega)  | kernel_rfl) ?_
        | refine RegW.run ?_
        | fail
      all_goals first
        | (exfalso; omega)
        | exact Dle.tup (X := (cx Tryz.prog mixed tyT_ok E)) ⟨Dle.rc (X := (cx Tryz.prog mixed tyT_ok E)) (Dle.sl (X := (cx Tryz.prog mixed tyT_ok E)) rfl (fun i j hi hj => Dle.refl _ _)), Dle.refl _ _, trivial⟩
        | trace_state
  · rw [if_neg he]
    refine Sp.body Tryz.func21 (by kernel_rfl) rfl (by kernel_rfl) (by kernel_rfl) (by kernel_rfl) ?_
    repeat' first
      | (refine codeW_cond rfl ?_; first | (refine condW_dec ?_ ?_ <;> intro _ <;> try (exfalso; omega)) | refine condW_not ?_ | (refine condW_bool ?_ ?_ <;> intro _ <;> try (exfalso; omega)))
      | (refine facW_intro ?_; intro _)
      | refine Or.inl ?_
      | ((conv => whnf); first | (refine condW_dec ?_ ?_ <;> intro _ <;> try (exfalso; omega)) | refine condW_not ?_ | (refine condW_bool ?_ ?_ <;> intro _ <;> try (exfalso; omega)) | (refine nbC_t (fun _ => ?_) ?_) | (refine nbC_f ?_ (fun _ => ?_)))
      | refine And.intro (by first | omega | (simp only [Int.toNat_natCast] at *; omega) | (simp only [Nat.reduceAdd, Int.cast_ofNat_Int, true_and, and_true]; omega)  | kernel_rfl) ?_
      | refine RegW.run ?_
      | refine ⟨_, h1, ?_⟩
      | fail
    all_goals first
      | exact Dle.tup (X := (cx Tryz.prog mixed tyT_ok E)) ⟨Dle.nil (X := (cx Tryz.prog mixed tyT_ok E)), Dle.refl _ _, trivial⟩
      | exact Dle.tup (X := (cx Tryz.prog mixed tyT_ok E)) ⟨Dle.rc (X := (cx Tryz.prog mixed tyT_ok E)) (Dle.nil (X := (cx Tryz.prog mixed tyT_ok E))), Dle.refl _ _, trivial⟩
      | trace_state
end
end rk
end Go.Proofs.YthoemnhigboahaaGreatDoor
