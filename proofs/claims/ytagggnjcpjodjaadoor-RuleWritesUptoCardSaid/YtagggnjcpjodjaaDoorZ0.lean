/-
  Tests of languages: counts, levels; what is wrong with one; its text.
-/
import Derived.Test.YtagggnjcpjodjaaDoorQ8
namespace Go.Proofs.YtagggnjcpjodjaaDoor
open Go.RowKit
set_option linter.unusedVariables false
set_option linter.unusedSimpArgs false
namespace rule
theorem tkids_lt (c x : Ts) (h : x ∈ c.kids) : SizeOf.sizeOf x < SizeOf.sizeOf c := by
  cases c with
  | mk o a b d l =>
    have := List.sizeOf_lt_of_mem h
    simp only [Ts.kids] at this
    simp
    omega
mutual
def tlvl : Ts → Nat
  | .mk _ _ _ _ l => tlvlL l + 1
def tlvlL : List Ts → Nat
  | [] => 0
  | x :: r => max (tlvl x) (tlvlL r)
end
theorem tlvl_eq (c : Ts) : tlvl c = tlvlL c.kids + 1 := by cases c; simp [tlvl, Ts.kids]
theorem tlvlL_app (l : List Ts) (x : Ts) : tlvlL (l ++ [x]) = max (tlvlL l) (tlvl x) := by
  induction l with
  | nil => simp [tlvlL]
  | cons a l ih => simp only [List.cons_append, tlvlL, ih]; omega
theorem tlvl_mem (l : List Ts) (x : Ts) (h : x ∈ l) : tlvl x ≤ tlvlL l := by
  induction l with
  | nil => cases h
  | cons a l ih =>
    rcases List.mem_cons.1 h with rfl | h
    · simp [tlvlL]; omega
    · have := ih h; simp [tlvlL]; omega
mutual
def tcnt : Ts → Nat
  | .mk _ _ _ _ l => tcntL l + 1
def tcntL : List Ts → Nat
  | [] => 0
  | x :: r => tcnt x + tcntL r
end
theorem tcnt_eq (c : Ts) : tcnt c = tcntL c.kids + 1 := by cases c; simp [tcnt, Ts.kids]
theorem tcntL_app (l : List Ts) (x : Ts) : tcntL (l ++ [x]) = tcntL l + tcnt x := by
  induction l with
  | nil => simp [tcntL]
  | cons a l ih => simp only [List.cons_append, tcntL, ih]; omega
theorem tcnt_mem (l : List Ts) (x : Ts) (h : x ∈ l) : tcnt x ≤ tcntL l := by
  induction l with
  | nil => cases h
  | cons a l ih =>
    rcases List.mem_cons.1 h with rfl | h
    · simp [tcntL]
    · have := ih h; simp [tcntL]; omega
theorem tcntL_take (l : List Ts) (k : Nat) : tcntL (l.take k) ≤ tcntL l := by
  induction l generalizing k with
  | nil => simp [tcntL]
  | cons a l ih => cases k with
    | zero => simp [tcntL]
    | succ k => have := ih k; simp only [List.take_succ_cons, tcntL]; omega
mutual
theorem tlvl_le_cnt : ∀ c : Ts, tlvl c ≤ tcnt c
  | .mk _ _ _ _ l => by have := tlvlL_le_cnt l; simp only [tlvl, tcnt]; omega
theorem tlvlL_le_cnt : ∀ l : List Ts, tlvlL l ≤ tcntL l
  | [] => by simp [tlvlL]
  | x :: r => by have := tlvl_le_cnt x; have := tlvlL_le_cnt r; simp only [tlvlL, tcntL]; omega
end
mutual
/-- What a count with a limit answers. -/
def tmany : Ts → Nat
  | .mk _ _ _ _ l => tmanyL l 1
def tmanyL : List Ts → Nat → Nat
  | [], n => n
  | x :: r, n => if 20 < n then n else tmanyL r (n + tmany x)
end
theorem tmany_eq (c : Ts) : tmany c = tmanyL c.kids 1 := by cases c; simp [tmany, Ts.kids]
mutual
theorem tmany_cnt : ∀ c : Ts, tmany c ≤ tcnt c ∧ (tmany c ≤ 20 → tmany c = tcnt c)
  | .mk _ _ _ _ l => by have := tmanyL_cnt l 1; simp only [tmany, tcnt]; omega
theorem tmanyL_cnt : ∀ (l : List Ts) (n : Nat), tmanyL l n ≤ n + tcntL l ∧ (tmanyL l n ≤ 20 → tmanyL l n = n + tcntL l) ∧ n ≤ tmanyL l n
  | [], n => by simp [tmanyL, tcntL]
  | x :: r, n => by
    have h1 := tmany_cnt x
    have h2 := tmanyL_cnt r (n + tmany x)
    simp only [tmanyL, tcntL]
    split <;> omega
end
theorem tmanyL_drop {l : List Ts} {k n : Nat} (h : k < l.length) : tmanyL (l.drop k) n = if 20 < n then n else tmanyL (l.drop (k + 1)) (n + tmany (l.getD k .zero)) := by
  rw [drop_cons l .zero k h]; simp only [tmanyL]
theorem tmanyL_end {l : List Ts} {k n : Nat} (h : l.length ≤ k) : tmanyL (l.drop k) n = n := by rw [List.drop_of_length_le h]; rfl
section
variable (E : Env)
set_option maxRecDepth 100000
theorem tlevels_sp : ∀ (N : Nat) (c : Ts), SizeOf.sizeOf c < N → tlvl c ≤ 4611686018427387904 → Sp (cx Tryd.prog mixed tyT_ok E) 44 [encT c] (i64 (tlvl c))
  | 0, c, h, _ => by omega
  | N + 1, c, h, hb => by
    have ih := fun x (hx : x ∈ c.kids) => tlevels_sp N x (by have := tkids_lt c x hx; omega) (by have := tlvl_mem c.kids x hx; rw [tlvl_eq] at hb; omega)
    rw [tlvl_eq] at hb ⊢
    refine Sp.body Tryd.func44 (by kernel_rfl) rfl (by kernel_rfl) (by kernel_rfl) (by kernel_rfl) ?_
    repeat' first
      | (refine facW_intro ?_; intro _)
      | refine Or.inl ?_
      | ((conv => whnf); first | (refine condW_dec ?_ ?_ <;> intro _) | refine condW_not ?_ | (refine condW_bool ?_ ?_ <;> intro _) | (refine nbC_t (fun _ => ?_) ?_) | (refine nbC_f ?_ (fun _ => ?_)))
      | refine And.intro (by first | omega | (simp only [Int.toNat_natCast] at *; omega) | (simp only [Nat.reduceAdd, Int.cast_ofNat_Int, true_and, and_true]; omega) | kernel_rfl) ?_
      | refine RegW.run ?_
      | fail
    refine ⟨Nat, fun k => [(3, i64 (tlvlL (c.kids.take k))), (9, i64 k)], fun k => [], [], fun k => [], fun k => k ≤ c.kids.length, fun k => c.kids.length - k, ⟨0, by omega, ⟨[], ⟨by kernel_rfl, by kernel_rfl, by kernel_rfl, by kernel_rfl, by kernel_rfl, by kernel_rfl, by kernel_rfl⟩, (by repeat' first | exact trivial | exact rfl | kernel_rfl | exact Dle.of_eq rfl | exact MLe.of_eq rfl | exact Dle.i (by omega) | exact Dle.i (by simp only [Int.toNat_natCast] at *; omega) | exact Dle.nil | exact Dle.rc Dle.nil | exact Option.some_ne_none _ | exact Or.inl rfl | exact Or.inr trivial | omega | (simp only [Int.toNat_natCast] at *; omega) | (intro _ _ _ _; exact Dle.of_eq rfl) | refine And.intro ?_ ?_)⟩⟩, fun k hk => ?_⟩
    have hk : k ≤ c.kids.length := hk
    by_cases hlt : k < c.kids.length
    · repeat' first
        | (refine facW_intro ?_; intro _)
        | refine Or.inl ?_
        | ((conv => whnf); first | (refine condW_dec ?_ ?_ <;> intro _ <;> try (exfalso; omega)) | refine condW_not ?_ | (refine condW_bool ?_ ?_ <;> intro _ <;> try (exfalso; omega)) | (refine nbC_t (fun _ => ?_) ?_) | (refine nbC_f ?_ (fun _ => ?_)))
        | refine And.intro (by first | omega | (simp only [Int.toNat_natCast] at *; omega) | (simp only [Nat.reduceAdd, Int.cast_ofNat_Int, true_and, and_true]; omega) | kernel_rfl) ?_
        | refine RegW.run ?_
        | refine ⟨_, ih _ (getD_mem c.kids .zero k hlt), ?_⟩
        | fail
      have e1 : tlvlL (c.kids.take (k + 1)) = max (tlvlL (c.kids.take k)) (tlvl (c.kids.getD k .zero)) := by rw [take_snoc c.kids .zero k hlt, tlvlL_app]
      exact ⟨k + 1, hlt, ⟨[], ⟨by kernel_rfl, by kernel_rfl, by kernel_rfl, by kernel_rfl, by kernel_rfl, by kernel_rfl, by kernel_rfl⟩, (by repeat' first | exact trivial | exact rfl | kernel_rfl | exact Dle.of_eq rfl | exact MLe.of_eq rfl | exact Dle.i (by omega) | exact Dle.i (by simp only [Int.toNat_natCast] at *; omega) | exact Dle.nil | exact Dle.rc Dle.nil | exact Option.some_ne_none _ | exact Or.inl rfl | exact Or.inr trivial | omega | (simp only [Int.toNat_natCast] at *; omega) | (intro _ _ _ _; exact Dle.of_eq rfl) | refine And.intro ?_ ?_)⟩, by first | omega | (dsimp only; omega)⟩
    · have : k = c.kids.length := by omega
      subst this
      have e : c.kids.take c.kids.length = c.kids := List.take_length
      rw [← e] at hb
      repeat' first
        | (refine facW_intro ?_; intro _)
        | refine Or.inl ?_
        | ((conv => whnf); first | (refine condW_dec ?_ ?_ <;> intro _ <;> try (exfalso; omega)) | refine condW_not ?_ | (refine condW_bool ?_ ?_ <;> intro _ <;> try (exfalso; omega)) | (refine nbC_t (fun _ => ?_) ?_) | (refine nbC_f ?_ (fun _ => ?_)))
        | refine And.intro (by first | omega | (simp only [Int.toNat_natCast] at *; omega) | (simp only [Nat.reduceAdd, Int.cast_ofNat_Int, true_and, and_true]; omega) | kernel_rfl) ?_
        | refine RegW.run ?_
        | fail
      exact Dle.i (by rw [e]; omega)
theorem tmany_sp : ∀ (N : Nat) (c : Ts), SizeOf.sizeOf c < N → tcnt c ≤ 4611686018427387904 → Sp (cx Tryd.prog mixed tyT_ok E) 43 [encT c] (i64 (tmany c))
  | 0, c, h, _ => by omega
  | N + 1, c, h, hb => by
    have ih := fun x (hx : x ∈ c.kids) => tmany_sp N x (by have := tkids_lt c x hx; omega) (by have := tcnt_mem c.kids x hx; rw [tcnt_eq] at hb; omega)
    rw [tcnt_eq] at hb
    obtain ⟨r, hr⟩ : ∃ r, r = tmany c := ⟨_, rfl⟩
    rw [← hr]
    rw [tmany_eq] at hr
    have hrb := (tmanyL_cnt c.kids 1).1
    refine Sp.body Tryd.func43 (by kernel_rfl) rfl (by kernel_rfl) (by kernel_rfl) (by kernel_rfl) ?_
    repeat' first
      | (refine facW_intro ?_; intro _)
      | refine Or.inl ?_
      | ((conv => whnf); first | (refine condW_dec ?_ ?_ <;> intro _) | refine condW_not ?_ | (refine condW_bool ?_ ?_ <;> intro _) | (refine nbC_t (fun _ => ?_) ?_) | (refine nbC_f ?_ (fun _ => ?_)))
      | refine And.intro (by first | omega | (simp only [Int.toNat_natCast] at *; omega) | (simp only [Nat.reduceAdd, Int.cast_ofNat_Int, true_and, and_true]; omega) | kernel_rfl) ?_
      | refine RegW.run ?_
      | fail
    refine ⟨Nat × Nat, fun k => [(3, i64 k.2), (9, i64 k.1)], fun k => [], [], fun k => [], fun k => k.1 ≤ c.kids.length ∧ r = tmanyL (c.kids.drop k.1) k.2, fun k => c.kids.length - k.1, ⟨(0, 1), ⟨by omega, hr⟩, ⟨[], ⟨by kernel_rfl, by kernel_rfl, by kernel_rfl, by kernel_rfl, by kernel_rfl, by kernel_rfl, by kernel_rfl⟩, (by repeat' first | exact trivial | exact rfl | kernel_rfl | exact Dle.of_eq rfl | exact MLe.of_eq rfl | exact Dle.i (by omega) | exact Dle.i (by simp only [Int.toNat_natCast] at *; omega) | exact Dle.nil | exact Dle.rc Dle.nil | exact Option.some_ne_none _ | exact Or.inl rfl | exact Or.inr trivial | omega | (simp only [Int.toNat_natCast] at *; omega) | (intro _ _ _ _; exact Dle.of_eq rfl) | refine And.intro ?_ ?_)⟩⟩, fun k hk => ?_⟩
    obtain ⟨hk, hK⟩ := hk
    by_cases hlt : k.1 < c.kids.length
    · rw [tmanyL_drop hlt] at hK
      have h1 := (tmany_cnt (c.kids.getD k.1 .zero)).1
      have h2 := tcnt_mem c.kids _ (getD_mem c.kids .zero k.1 hlt)
      have hc := ih _ (getD_mem c.kids .zero k.1 hlt)
      generalize tmany (c.kids.getD k.1 .zero) = m at hK hc h1
      repeat' first
        | (refine facW_intro ?_; intro _)
        | refine Or.inl ?_
        | ((conv => whnf); first | (refine condW_dec ?_ ?_ <;> intro _ <;> try (exfalso; omega)) | refine condW_not ?_ | (refine condW_bool ?_ ?_ <;> intro _ <;> try (exfalso; omega)) | (refine nbC_t (fun _ => ?_) ?_) | (refine nbC_f ?_ (fun _ => ?_)))
        | refine And.intro (by first | omega | (simp only [Int.toNat_natCast] at *; omega) | (simp only [Nat.reduceAdd, Int.cast_ofNat_Int, true_and, and_true]; omega) | kernel_rfl) ?_
        | refine RegW.run ?_
        | refine ⟨_, hc, ?_⟩
        | fail
      all_goals first
        | exact ⟨(k.1 + 1, k.2 + m), ⟨by dsimp only; omega, by rw [hK, if_neg (by omega)]⟩, ⟨[], ⟨by kernel_rfl, by kernel_rfl, by kernel_rfl, by kernel_rfl, by kernel_rfl, by kernel_rfl, by kernel_rfl⟩, (by repeat' first | exact trivial | exact rfl | kernel_rfl | exact Dle.of_eq rfl | exact MLe.of_eq rfl | exact Dle.i (by omega) | exact Dle.i (by simp only [Int.toNat_natCast] at *; omega) | exact Dle.nil | exact Dle.rc Dle.nil | exact Option.some_ne_none _ | exact Or.inl rfl | exact Or.inr trivial | omega | (simp only [Int.toNat_natCast] at *; omega) | (intro _ _ _ _; exact Dle.of_eq rfl) | refine And.intro ?_ ?_)⟩, by first | omega | (dsimp only; omega)⟩
        | exact Dle.i (by rw [hK, if_pos (by omega)])
        | trace_state
    · rw [tmanyL_end (by omega)] at hK
      repeat' first
        | (refine facW_intro ?_; intro _)
        | refine Or.inl ?_
        | ((conv => whnf); first | (refine condW_dec ?_ ?_ <;> intro _ <;> try (exfalso; omega)) | refine condW_not ?_ | (refine condW_bool ?_ ?_ <;> intro _ <;> try (exfalso; omega)) | (refine nbC_t (fun _ => ?_) ?_) | (refine nbC_f ?_ (fun _ => ?_)))
        | refine And.intro (by first | omega | (simp only [Int.toNat_natCast] at *; omega) | (simp only [Nat.reduceAdd, Int.cast_ofNat_Int, true_and, and_true]; omega) | kernel_rfl) ?_
        | refine RegW.run ?_
        | fail
      exact Dle.i (by rw [hK])
end
end rule
end Go.Proofs.YtagggnjcpjodjaaDoor
