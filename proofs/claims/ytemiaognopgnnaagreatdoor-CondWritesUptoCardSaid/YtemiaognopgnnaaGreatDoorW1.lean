/-
  Conditions: counts, levels; zero values, kinds, reserved words. Conditions: values of operations on both sides; the reference's counts.
-/
import Derived.Test.YtemiaognopgnnaaGreatDoorQ8
namespace Go.Proofs.YtemiaognopgnnaaGreatDoor
open Go.RowKit
set_option linter.unusedVariables false
set_option linter.unusedSimpArgs false
theorem kids_lt (c x : Cd) (h : x ∈ c.kids) : SizeOf.sizeOf x < SizeOf.sizeOf c := by
  cases c with
  | mk o r v l =>
    have := List.sizeOf_lt_of_mem h
    simp only [Cd.kids] at this
    simp
    omega
mutual
def clvl : Cd → Nat
  | .mk _ _ _ l => clvlL l + 1
def clvlL : List Cd → Nat
  | [] => 0
  | x :: r => max (clvl x) (clvlL r)
end
theorem clvl_eq (c : Cd) : clvl c = clvlL c.kids + 1 := by cases c; simp [clvl, Cd.kids]
theorem clvlL_app (l : List Cd) (x : Cd) : clvlL (l ++ [x]) = max (clvlL l) (clvl x) := by
  induction l with
  | nil => simp [clvlL]
  | cons a l ih => simp only [List.cons_append, clvlL, ih]; omega
theorem clvl_mem (l : List Cd) (x : Cd) (h : x ∈ l) : clvl x ≤ clvlL l := by
  induction l with
  | nil => cases h
  | cons a l ih =>
    rcases List.mem_cons.1 h with rfl | h
    · simp [clvlL]; omega
    · have := ih h; simp [clvlL]; omega
mutual
def ccnt : Cd → Nat
  | .mk _ _ _ l => ccntL l + 1
def ccntL : List Cd → Nat
  | [] => 0
  | x :: r => ccnt x + ccntL r
end
theorem ccnt_eq (c : Cd) : ccnt c = ccntL c.kids + 1 := by cases c; simp [ccnt, Cd.kids]
theorem ccntL_app (l : List Cd) (x : Cd) : ccntL (l ++ [x]) = ccntL l + ccnt x := by
  induction l with
  | nil => simp [ccntL]
  | cons a l ih => simp only [List.cons_append, ccntL, ih]; omega
theorem ccnt_mem (l : List Cd) (x : Cd) (h : x ∈ l) : ccnt x ≤ ccntL l := by
  induction l with
  | nil => cases h
  | cons a l ih =>
    rcases List.mem_cons.1 h with rfl | h
    · simp [ccntL]
    · have := ih h; simp [ccntL]; omega
theorem ccntL_take (l : List Cd) (k : Nat) : ccntL (l.take k) ≤ ccntL l := by
  induction l generalizing k with
  | nil => simp [ccntL]
  | cons a l ih => cases k with
    | zero => simp [ccntL]
    | succ k => have := ih k; simp only [List.take_succ_cons, ccntL]; omega
mutual
theorem clvl_le_cnt : ∀ c : Cd, clvl c ≤ ccnt c
  | .mk _ _ _ l => by have := clvlL_le_cnt l; simp only [clvl, ccnt]; omega
theorem clvlL_le_cnt : ∀ l : List Cd, clvlL l ≤ ccntL l
  | [] => by simp [clvlL]
  | x :: r => by have := clvl_le_cnt x; have := clvlL_le_cnt r; simp only [clvlL, ccntL]; omega
end
mutual
/-- What a count with a limit answers. -/
def cmany : Cd → Nat
  | .mk _ _ _ l => cmanyL l 1
def cmanyL : List Cd → Nat → Nat
  | [], n => n
  | x :: r, n => if 200 < n then n else cmanyL r (n + cmany x)
end
theorem cmany_eq (c : Cd) : cmany c = cmanyL c.kids 1 := by cases c; simp [cmany, Cd.kids]
mutual
theorem cmany_cnt : ∀ c : Cd, cmany c ≤ ccnt c ∧ (cmany c ≤ 200 → cmany c = ccnt c)
  | .mk _ _ _ l => by have := cmanyL_cnt l 1; simp only [cmany, ccnt]; omega
theorem cmanyL_cnt : ∀ (l : List Cd) (n : Nat), cmanyL l n ≤ n + ccntL l ∧ (cmanyL l n ≤ 200 → cmanyL l n = n + ccntL l) ∧ n ≤ cmanyL l n
  | [], n => by simp [cmanyL, ccntL]
  | x :: r, n => by
    have h1 := cmany_cnt x
    have h2 := cmanyL_cnt r (n + cmany x)
    simp only [cmanyL, ccntL]
    split <;> omega
end
theorem cmanyL_drop {l : List Cd} {k n : Nat} (h : k < l.length) : cmanyL (l.drop k) n = if 200 < n then n else cmanyL (l.drop (k + 1)) (n + cmany (l.getD k .zero)) := by
  rw [drop_cons l .zero k h]; simp only [cmanyL]
theorem cmanyL_end {l : List Cd} {k n : Nat} (h : l.length ≤ k) : cmanyL (l.drop k) n = n := by rw [List.drop_of_length_le h]; rfl
/-- A value of zeros. -/
def zeroP (v : Vu) : Prop := v.kind = 0 ∧ v.b = false ∧ v.i = 0 ∧ v.text = ⟨#[]⟩ ∧ v.items.length = 0 ∧ v.keys.length = 0
instance (v : Vu) : Decidable (zeroP v) := by unfold zeroP; infer_instance
def compB (v : Vu) : Bool := decide (v.kind = 5) || decide (v.kind = 6)
def resWords : List ByteArray := [⟨#[97, 110, 100]⟩, ⟨#[111, 114]⟩, ⟨#[110, 111, 116]⟩, ⟨#[104, 97, 115]⟩, ⟨#[105, 110]⟩, ⟨#[98, 101, 103, 105, 110, 115]⟩]
def resB (s : ByteArray) : Bool := decide (s = ⟨#[97, 110, 100]⟩) || decide (s = ⟨#[111, 114]⟩) || decide (s = ⟨#[110, 111, 116]⟩) || decide (s = ⟨#[104, 97, 115]⟩) || decide (s = ⟨#[105, 110]⟩) || decide (s = ⟨#[98, 101, 103, 105, 110, 115]⟩)
/-- An operation cannot have a value. -/
def wrongB (op : Int) (v : Vu) : Bool := if op = 12 then (!decide (v.kind = 5) || v.items.any compB) else if op = 13 then !decide (v.kind = 3) else compB v
section
variable (E : Env)
set_option maxRecDepth 100000
theorem cdeep_sp : ∀ (N : Nat) (c : Cd), SizeOf.sizeOf c < N → clvl c ≤ 4611686018427387904 → Sp (cx Tryz.prog mixed tyT_ok E) 80 [encC c] (i64 (clvl c))
  | 0, c, h, _ => by omega
  | N + 1, c, h, hb => by
    have ih := fun x (hx : x ∈ c.kids) => cdeep_sp N x (by have := kids_lt c x hx; omega) (by have := clvl_mem c.kids x hx; rw [clvl_eq] at hb; omega)
    rw [clvl_eq] at hb ⊢
    refine Sp.body Tryz.func80 (by kernel_rfl) rfl (by kernel_rfl) (by kernel_rfl) (by kernel_rfl) ?_
    repeat' first
      | (refine facW_intro ?_; intro _)
      | refine Or.inl ?_
      | ((conv => whnf); first | (refine condW_dec ?_ ?_ <;> intro _) | refine condW_not ?_ | (refine condW_bool ?_ ?_ <;> intro _) | (refine nbC_t (fun _ => ?_) ?_) | (refine nbC_f ?_ (fun _ => ?_)))
      | refine And.intro (by first | omega | (simp only [Int.toNat_natCast] at *; omega) | (simp only [Nat.reduceAdd, Int.cast_ofNat_Int, true_and, and_true]; omega)  | kernel_rfl) ?_
      | refine RegW.run ?_
      | fail
    refine ⟨Nat, fun k => [(3, i64 (clvlL (c.kids.take k))), (9, i64 k)], fun k => [], [], fun k => [], fun k => k ≤ c.kids.length, fun k => c.kids.length - k, ⟨0, by omega, ⟨[], ⟨by kernel_rfl, by kernel_rfl, by kernel_rfl, by kernel_rfl, by kernel_rfl, by kernel_rfl, by kernel_rfl⟩, (by repeat' first | exact trivial | exact rfl | kernel_rfl | exact Dle.of_eq rfl | exact MLe.of_eq rfl | exact Dle.i (by omega) | exact Dle.i (by simp only [Int.toNat_natCast] at *; omega) | exact Dle.nil | exact Dle.rc Dle.nil | exact Option.some_ne_none _ | exact Or.inl rfl | exact Or.inr trivial | omega | (simp only [Int.toNat_natCast] at *; omega) | (intro _ _ _ _; exact Dle.of_eq rfl) | refine And.intro ?_ ?_)⟩⟩, fun k hk => ?_⟩
    have hk : k ≤ c.kids.length := hk
    by_cases hlt : k < c.kids.length
    · repeat' first
        | (refine facW_intro ?_; intro _)
        | refine Or.inl ?_
        | ((conv => whnf); first | (refine condW_dec ?_ ?_ <;> intro _ <;> try (exfalso; omega)) | refine condW_not ?_ | (refine condW_bool ?_ ?_ <;> intro _ <;> try (exfalso; omega)) | (refine nbC_t (fun _ => ?_) ?_) | (refine nbC_f ?_ (fun _ => ?_)))
        | refine And.intro (by first | omega | (simp only [Int.toNat_natCast] at *; omega) | (simp only [Nat.reduceAdd, Int.cast_ofNat_Int, true_and, and_true]; omega)  | kernel_rfl) ?_
        | refine RegW.run ?_
        | refine ⟨_, ih _ (getD_mem c.kids .zero k hlt), ?_⟩
        | fail
      have e1 : clvlL (c.kids.take (k + 1)) = max (clvlL (c.kids.take k)) (clvl (c.kids.getD k .zero)) := by rw [take_snoc c.kids .zero k hlt, clvlL_app]
      exact ⟨k + 1, hlt, ⟨[], ⟨by kernel_rfl, by kernel_rfl, by kernel_rfl, by kernel_rfl, by kernel_rfl, by kernel_rfl, by kernel_rfl⟩, (by repeat' first | exact trivial | exact rfl | kernel_rfl | exact Dle.of_eq rfl | exact MLe.of_eq rfl | exact Dle.i (by omega) | exact Dle.i (by simp only [Int.toNat_natCast] at *; omega) | exact Dle.nil | exact Dle.rc Dle.nil | exact Option.some_ne_none _ | exact Or.inl rfl | exact Or.inr trivial | omega | (simp only [Int.toNat_natCast] at *; omega) | (intro _ _ _ _; exact Dle.of_eq rfl) | refine And.intro ?_ ?_)⟩, by first | omega | (dsimp only; omega)⟩
    · have : k = c.kids.length := by omega
      subst this
      have e : c.kids.take c.kids.length = c.kids := List.take_length
      rw [← e] at hb
      repeat' first
        | (refine facW_intro ?_; intro _)
        | refine Or.inl ?_
        | ((conv => whnf); first | (refine condW_dec ?_ ?_ <;> intro _ <;> try (exfalso; omega)) | refine condW_not ?_ | (refine condW_bool ?_ ?_ <;> intro _ <;> try (exfalso; omega)) | (refine nbC_t (fun _ => ?_) ?_) | (refine nbC_f ?_ (fun _ => ?_)))
        | refine And.intro (by first | omega | (simp only [Int.toNat_natCast] at *; omega) | (simp only [Nat.reduceAdd, Int.cast_ofNat_Int, true_and, and_true]; omega)  | kernel_rfl) ?_
        | refine RegW.run ?_
        | fail
      exact Dle.i (by rw [e]; omega)
theorem cmany_sp : ∀ (N : Nat) (c : Cd), SizeOf.sizeOf c < N → ccnt c ≤ 4611686018427387904 → Sp (cx Tryz.prog mixed tyT_ok E) 79 [encC c] (i64 (cmany c))
  | 0, c, h, _ => by omega
  | N + 1, c, h, hb => by
    have ih := fun x (hx : x ∈ c.kids) => cmany_sp N x (by have := kids_lt c x hx; omega) (by have := ccnt_mem c.kids x hx; rw [ccnt_eq] at hb; omega)
    rw [ccnt_eq] at hb
    obtain ⟨r, hr⟩ : ∃ r, r = cmany c := ⟨_, rfl⟩
    rw [← hr]
    rw [cmany_eq] at hr
    have hrb := (cmanyL_cnt c.kids 1).1
    refine Sp.body Tryz.func79 (by kernel_rfl) rfl (by kernel_rfl) (by kernel_rfl) (by kernel_rfl) ?_
    repeat' first
      | (refine facW_intro ?_; intro _)
      | refine Or.inl ?_
      | ((conv => whnf); first | (refine condW_dec ?_ ?_ <;> intro _) | refine condW_not ?_ | (refine condW_bool ?_ ?_ <;> intro _) | (refine nbC_t (fun _ => ?_) ?_) | (refine nbC_f ?_ (fun _ => ?_)))
      | refine And.intro (by first | omega | (simp only [Int.toNat_natCast] at *; omega) | (simp only [Nat.reduceAdd, Int.cast_ofNat_Int, true_and, and_true]; omega)  | kernel_rfl) ?_
      | refine RegW.run ?_
      | fail
    refine ⟨Nat × Nat, fun k => [(3, i64 k.2), (9, i64 k.1)], fun k => [], [], fun k => [], fun k => k.1 ≤ c.kids.length ∧ r = cmanyL (c.kids.drop k.1) k.2, fun k => c.kids.length - k.1, ⟨(0, 1), ⟨by omega, hr⟩, ⟨[], ⟨by kernel_rfl, by kernel_rfl, by kernel_rfl, by kernel_rfl, by kernel_rfl, by kernel_rfl, by kernel_rfl⟩, (by repeat' first | exact trivial | exact rfl | kernel_rfl | exact Dle.of_eq rfl | exact MLe.of_eq rfl | exact Dle.i (by omega) | exact Dle.i (by simp only [Int.toNat_natCast] at *; omega) | exact Dle.nil | exact Dle.rc Dle.nil | exact Option.some_ne_none _ | exact Or.inl rfl | exact Or.inr trivial | omega | (simp only [Int.toNat_natCast] at *; omega) | (intro _ _ _ _; exact Dle.of_eq rfl) | refine And.intro ?_ ?_)⟩⟩, fun k hk => ?_⟩
    obtain ⟨hk, hK⟩ := hk
    by_cases hlt : k.1 < c.kids.length
    · rw [cmanyL_drop hlt] at hK
      have h1 := (cmany_cnt (c.kids.getD k.1 .zero)).1
      have h2 := ccnt_mem c.kids _ (getD_mem c.kids .zero k.1 hlt)
      have hc := ih _ (getD_mem c.kids .zero k.1 hlt)
      generalize cmany (c.kids.getD k.1 .zero) = m at hK hc h1
      repeat' first
        | (refine facW_intro ?_; intro _)
        | refine Or.inl ?_
        | ((conv => whnf); first | (refine condW_dec ?_ ?_ <;> intro _ <;> try (exfalso; omega)) | refine condW_not ?_ | (refine condW_bool ?_ ?_ <;> intro _ <;> try (exfalso; omega)) | (refine nbC_t (fun _ => ?_) ?_) | (refine nbC_f ?_ (fun _ => ?_)))
        | refine And.intro (by first | omega | (simp only [Int.toNat_natCast] at *; omega) | (simp only [Nat.reduceAdd, Int.cast_ofNat_Int, true_and, and_true]; omega)  | kernel_rfl) ?_
        | refine RegW.run ?_
        | refine ⟨_, hc, ?_⟩
        | fail
      all_goals first
        | exact ⟨(k.1 + 1, k.2 + m), ⟨by dsimp only; omega, by rw [hK, if_neg (by omega)]⟩, ⟨[], ⟨by kernel_rfl, by kernel_rfl, by kernel_rfl, by kernel_rfl, by kernel_rfl, by kernel_rfl, by kernel_rfl⟩, (by repeat' first | exact trivial | exact rfl | kernel_rfl | exact Dle.of_eq rfl | exact MLe.of_eq rfl | exact Dle.i (by omega) | exact Dle.i (by simp only [Int.toNat_natCast] at *; omega) | exact Dle.nil | exact Dle.rc Dle.nil | exact Option.some_ne_none _ | exact Or.inl rfl | exact Or.inr trivial | omega | (simp only [Int.toNat_natCast] at *; omega) | (intro _ _ _ _; exact Dle.of_eq rfl) | refine And.intro ?_ ?_)⟩, by first | omega | (dsimp only; omega)⟩
        | exact Dle.i (by rw [hK, if_pos (by omega)])
        | trace_state
    · rw [cmanyL_end (by omega)] at hK
      repeat' first
        | (refine facW_intro ?_; intro _)
        | refine Or.inl ?_
        | ((conv => whnf); first | (refine condW_dec ?_ ?_ <;> intro _ <;> try (exfalso; omega)) | refine condW_not ?_ | (refine condW_bool ?_ ?_ <;> intro _ <;> try (exfalso; omega)) | (refine nbC_t (fun _ => ?_) ?_) | (refine nbC_f ?_ (fun _ => ?_)))
        | refine And.intro (by first | omega | (simp only [Int.toNat_natCast] at *; omega) | (simp only [Nat.reduceAdd, Int.cast_ofNat_Int, true_and, and_true]; omega)  | kernel_rfl) ?_
        | refine RegW.run ?_
        | fail
      exact Dle.i (by rw [hK])
theorem zero_sp (v : Vu) : Sp (cx Tryz.prog mixed tyT_ok E) 173 [encV v] (dB (decide (zeroP v))) := by
  refine Sp.body Tryz.func173 (by kernel_rfl) rfl (by kernel_rfl) (by kernel_rfl) (by kernel_rfl) ?_
  repeat' first
    | (refine facW_intro ?_; intro _)
    | refine Or.inl ?_
    | ((conv => whnf); first | (refine condW_dec ?_ ?_ <;> intro _ <;> try (exfalso; omega)) | refine condW_not ?_ | (refine condW_bool ?_ ?_ <;> intro _ <;> try (exfalso; omega)) | (refine nbC_t (fun _ => ?_) ?_) | (refine nbC_f ?_ (fun _ => ?_)))
    | refine And.intro (by first | omega | (simp only [Int.toNat_natCast] at *; omega) | (simp only [Nat.reduceAdd, Int.cast_ofNat_Int, true_and, and_true]; omega)  | kernel_rfl) ?_
    | refine RegW.run ?_
    | fail
  all_goals first
    | exact Dle.bo (by unfold zeroP; grind)
    | trace_state
theorem compound_sp (v : Vu) : Sp (cx Tryz.prog mixed tyT_ok E) 216 [encV v] (dB (compB v)) := by
  refine Sp.body Tryz.func216 (by kernel_rfl) rfl (by kernel_rfl) (by kernel_rfl) (by kernel_rfl) ?_
  repeat' first
    | (refine facW_intro ?_; intro _)
    | refine Or.inl ?_
    | ((conv => whnf); first | (refine condW_dec ?_ ?_ <;> intro _ <;> try (exfalso; omega)) | refine condW_not ?_ | (refine condW_bool ?_ ?_ <;> intro _ <;> try (exfalso; omega)) | (refine nbC_t (fun _ => ?_) ?_) | (refine nbC_f ?_ (fun _ => ?_)))
    | refine And.intro (by first | omega | (simp only [Int.toNat_natCast] at *; omega) | (simp only [Nat.reduceAdd, Int.cast_ofNat_Int, true_and, and_true]; omega)  | kernel_rfl) ?_
    | refine RegW.run ?_
    | fail
  all_goals first
    | exact Dle.bo (by unfold compB; grind)
    | trace_state
theorem reserved_sp (s : ByteArray) : Sp (cx Tryz.prog mixed tyT_ok E) 215 [dS s] (dB (resB s)) := by
  refine Sp.body Tryz.func215 (by kernel_rfl) rfl (by kernel_rfl) (by kernel_rfl) (by kernel_rfl) ?_
  repeat' first
    | (refine facW_intro ?_; intro _)
    | refine Or.inl ?_
    | ((conv => whnf); first | (refine condW_dec ?_ ?_ <;> intro _) | refine condW_not ?_ | (refine condW_bool ?_ ?_ <;> intro _) | (refine nbC_t (fun _ => ?_) ?_) | (refine nbC_f ?_ (fun _ => ?_)))
    | refine And.intro (by first | omega | (simp only [Int.toNat_natCast] at *; omega) | (simp only [Nat.reduceAdd, Int.cast_ofNat_Int, true_and, and_true]; omega)  | kernel_rfl) ?_
    | refine RegW.run ?_
    | fail
  all_goals first
    | exact Dle.bo (by unfold resB; simp_all)
    | trace_state
end
end Go.Proofs.YtemiaognopgnnaaGreatDoor
namespace Go.Proofs.YtemiaognopgnnaaGreatDoor
open Go.RowKit
set_option linter.unusedVariables false
set_option linter.unusedSimpArgs false
/-- Whether one of a row is a list or a table, from a place on. -/
def anyC (l : List Vu) (k : Nat) : Bool := (l.drop k).any compB
theorem anyC_yes {l : List Vu} {k : Nat} (h : k < l.length) (h2 : compB (l.getD k .zero) = true) : anyC l k = true := by
  unfold anyC
  rw [drop_cons l .zero k h, List.any_cons, h2]; rfl
theorem anyC_next {l : List Vu} {k : Nat} (h : k < l.length) (h2 : compB (l.getD k .zero) = false) : anyC l k = anyC l (k + 1) := by
  unfold anyC
  rw [drop_cons l .zero k h, List.any_cons, h2]; rfl
theorem anyC_end {l : List Vu} {k : Nat} (h : l.length ≤ k) : anyC l k = false := by unfold anyC; rw [List.drop_of_length_le h]; rfl
/-- The first place of one that is, from a place on; -1: none. -/
def idxC (l : List Vu) (k : Nat) : Int := if k < l.length then (if compB (l.getD k .zero) = true then (k : Int) else idxC l (k + 1)) else -1
  termination_by l.length - k
theorem idxC_any (l : List Vu) : ∀ (n k : Nat), l.length - k < n → decide (0 ≤ idxC l k) = anyC l k
  | 0, k, h => by omega
  | n + 1, k, h => by
    rw [idxC]
    split
    · rename_i h1
      split
      · rename_i h2
        rw [anyC_yes h1 h2, decide_eq_true (by omega)]
      · rename_i h2
        rw [anyC_next h1 (by simpa using h2)]
        exact idxC_any l n (k + 1) (by omega)
    · rw [anyC_end (by omega)]
      rfl
section
variable (E : Env)
set_option maxRecDepth 100000
theorem wrongKind_sp (op : Int) (v : Vu) : Sp (cx Tryz.prog mixed tyT_ok E) 175 [i64 op, encV v] (dB (wrongB op v)) := by
  obtain ⟨r, hr⟩ : ∃ r, r = wrongB op v := ⟨_, rfl⟩
  rw [← hr]
  unfold wrongB at hr
  have ha : v.items.any compB = anyC v.items 0 := rfl
  rw [ha] at hr
  refine Sp.body Tryz.func175 (by kernel_rfl) rfl (by kernel_rfl) (by kernel_rfl) (by kernel_rfl) ?_
  repeat' first
    | (refine facW_intro ?_; intro _)
    | refine Or.inl ?_
    | ((conv => whnf); first | (refine condW_dec ?_ ?_ <;> intro _) | refine condW_not ?_ | (refine condW_bool ?_ ?_ <;> intro _) | (refine nbC_t (fun _ => ?_) ?_) | (refine nbC_f ?_ (fun _ => ?_)))
    | refine And.intro (by first | omega | (simp only [Int.toNat_natCast] at *; omega) | (simp only [Nat.reduceAdd, Int.cast_ofNat_Int, true_and, and_true]; omega)  | kernel_rfl) ?_
    | refine RegW.run ?_
    | refine ⟨_, compound_sp E _, ?_⟩
    | fail
  all_goals first
    | exact Dle.bo (by rw [hr]; grind)
    | skip
  all_goals
    have hr : r = anyC v.items 0 := by rw [hr]; grind
    refine ⟨Nat, fun k => [(16, i64 k)], fun k => [], [], fun k => [], fun k => k ≤ v.items.length ∧ r = anyC v.items k, fun k => v.items.length - k, ⟨0, ⟨by omega, hr⟩, ⟨[], ⟨by kernel_rfl, by kernel_rfl, by kernel_rfl, by kernel_rfl, by kernel_rfl, by kernel_rfl, by kernel_rfl⟩, (by repeat' first | exact trivial | exact rfl | kernel_rfl | exact Dle.of_eq rfl | exact MLe.of_eq rfl | exact Dle.i (by omega) | exact Dle.i (by simp only [Int.toNat_natCast] at *; omega) | exact Dle.nil | exact Dle.rc Dle.nil | exact Option.some_ne_none _ | exact Or.inl rfl | exact Or.inr trivial | omega | (simp only [Int.toNat_natCast] at *; omega) | (intro _ _ _ _; exact Dle.of_eq rfl) | refine And.intro ?_ ?_)⟩⟩, fun k hk => ?_⟩
    obtain ⟨hk, hK⟩ := hk
    by_cases hlt : k < v.items.length
    · repeat' first
        | (refine facW_intro ?_; intro _)
        | refine Or.inl ?_
        | ((conv => whnf); first | (refine condW_dec ?_ ?_ <;> intro _ <;> try (exfalso; omega)) | refine condW_not ?_ | (refine condW_bool ?_ ?_ <;> intro _ <;> try (exfalso; omega)) | (refine nbC_t (fun _ => ?_) ?_) | (refine nbC_f ?_ (fun _ => ?_)))
        | refine And.intro (by first | omega | (simp only [Int.toNat_natCast] at *; omega) | (simp only [Nat.reduceAdd, Int.cast_ofNat_Int, true_and, and_true]; omega)  | kernel_rfl) ?_
        | refine RegW.run ?_
        | refine ⟨_, compound_sp E _, ?_⟩
        | fail
      all_goals first
        | exact ⟨k + 1, ⟨by omega, by rw [hK, anyC_next hlt (by simp only [Int.toNat_natCast] at *; first | assumption | (rw [show ((k : Int) - 1).toNat = k - 1 by omega] at *; assumption))]⟩, ⟨[], ⟨by kernel_rfl, by kernel_rfl, by kernel_rfl, by kernel_rfl, by kernel_rfl, by kernel_rfl, by kernel_rfl⟩, (by repeat' first | exact trivial | exact rfl | kernel_rfl | exact Dle.of_eq rfl | exact MLe.of_eq rfl | exact Dle.i (by omega) | exact Dle.i (by simp only [Int.toNat_natCast] at *; omega) | exact Dle.nil | exact Dle.rc Dle.nil | exact Option.some_ne_none _ | exact Or.inl rfl | exact Or.inr trivial | omega | (simp only [Int.toNat_natCast] at *; omega) | (intro _ _ _ _; exact Dle.of_eq rfl) | refine And.intro ?_ ?_)⟩, by first | omega | (dsimp only; omega)⟩
        | exact Dle.bo (by rw [hK, anyC_yes hlt (by simp only [Int.toNat_natCast] at *; first | assumption | (rw [show ((k : Int) - 1).toNat = k - 1 by omega] at *; assumption))])
        | trace_state
    · repeat' first
        | (refine facW_intro ?_; intro _)
        | refine Or.inl ?_
        | ((conv => whnf); first | (refine condW_dec ?_ ?_ <;> intro _ <;> try (exfalso; omega)) | refine condW_not ?_ | (refine condW_bool ?_ ?_ <;> intro _ <;> try (exfalso; omega)) | (refine nbC_t (fun _ => ?_) ?_) | (refine nbC_f ?_ (fun _ => ?_)))
        | refine And.intro (by first | omega | (simp only [Int.toNat_natCast] at *; omega) | (simp only [Nat.reduceAdd, Int.cast_ofNat_Int, true_and, and_true]; omega)  | kernel_rfl) ?_
        | refine RegW.run ?_
        | fail
      exact Dle.bo (by rw [hK, anyC_end (by omega)])
theorem scalar_sp (v : Vu) : Sp (cx Tryz.prog mixed tyT_ok E) 182 [encV v] (dB (!compB v)) := by
  refine Sp.body Tryz.func182 (by kernel_rfl) rfl (by kernel_rfl) (by kernel_rfl) (by kernel_rfl) ?_
  repeat' first
    | (refine facW_intro ?_; intro _)
    | refine Or.inl ?_
    | ((conv => whnf); first | (refine condW_dec ?_ ?_ <;> intro _ <;> try (exfalso; omega)) | refine condW_not ?_ | (refine condW_bool ?_ ?_ <;> intro _ <;> try (exfalso; omega)) | (refine nbC_t (fun _ => ?_) ?_) | (refine nbC_f ?_ (fun _ => ?_)))
    | refine And.intro (by first | omega | (simp only [Int.toNat_natCast] at *; omega) | (simp only [Nat.reduceAdd, Int.cast_ofNat_Int, true_and, and_true]; omega)  | kernel_rfl) ?_
    | refine RegW.run ?_
    | fail
  all_goals first
    | exact Dle.bo (by unfold compB; grind)
    | trace_state
theorem notScalar_sp (v : Vu) : Sp (cx Tryz.prog mixed tyT_ok E) 181 [encV v] (dB (compB v)) := by
  refine Sp.body Tryz.func181 (by kernel_rfl) rfl (by kernel_rfl) (by kernel_rfl) (by kernel_rfl) ?_
  repeat' first
    | (refine facW_intro ?_; intro _)
    | refine Or.inl ?_
    | ((conv => whnf); first | (refine condW_dec ?_ ?_ <;> intro _) | refine condW_not ?_ | (refine condW_bool ?_ ?_ <;> intro _) | (refine nbC_t (fun _ => ?_) ?_) | (refine nbC_f ?_ (fun _ => ?_)))
    | refine And.intro (by first | omega | (simp only [Int.toNat_natCast] at *; omega) | (simp only [Nat.reduceAdd, Int.cast_ofNat_Int, true_and, and_true]; omega)  | kernel_rfl) ?_
    | refine RegW.run ?_
    | refine ⟨_, scalar_sp E v, ?_⟩
    | fail
  all_goals first
    | exact Dle.bo (by simp)
    | exact Dle.bo (by simp_all)
    | trace_state
theorem indexC_sp (l : List Vu) : Sp (cx Tryz.prog mixed tyT_ok E) 221 [.rc (.vals l), .fn 181 []] (i64 (idxC l 0)) := by
  obtain ⟨r, hr⟩ : ∃ r, r = idxC l 0 := ⟨_, rfl⟩
  rw [← hr]
  refine Sp.body Tryz.func221 (by kernel_rfl) rfl (by kernel_rfl) (by kernel_rfl) (by kernel_rfl) ?_
  repeat' first
    | (refine facW_intro ?_; intro _)
    | refine Or.inl ?_
    | ((conv => whnf); first | (refine condW_dec ?_ ?_ <;> intro _) | refine condW_not ?_ | (refine condW_bool ?_ ?_ <;> intro _) | (refine nbC_t (fun _ => ?_) ?_) | (refine nbC_f ?_ (fun _ => ?_)))
    | refine And.intro (by first | omega | (simp only [Int.toNat_natCast] at *; omega) | (simp only [Nat.reduceAdd, Int.cast_ofNat_Int, true_and, and_true]; omega)  | kernel_rfl) ?_
    | refine RegW.run ?_
    | fail
  refine ⟨Nat, fun k => [(8, i64 k)], fun k => [], [], fun k => [], fun k => k ≤ l.length ∧ r = idxC l k, fun k => l.length - k, ⟨0, ⟨by omega, hr⟩, ⟨[], ⟨by kernel_rfl, by kernel_rfl, by kernel_rfl, by kernel_rfl, by kernel_rfl, by kernel_rfl, by kernel_rfl⟩, (by repeat' first | exact trivial | exact rfl | kernel_rfl | exact Dle.of_eq rfl | exact MLe.of_eq rfl | exact Dle.i (by omega) | exact Dle.i (by simp only [Int.toNat_natCast] at *; omega) | exact Dle.nil | exact Dle.rc Dle.nil | exact Option.some_ne_none _ | exact Or.inl rfl | exact Or.inr trivial | omega | (simp only [Int.toNat_natCast] at *; omega) | (intro _ _ _ _; exact Dle.of_eq rfl) | refine And.intro ?_ ?_)⟩⟩, fun k hk => ?_⟩
  obtain ⟨hk, hK⟩ := hk
  rw [idxC] at hK
  by_cases hlt : k < l.length
  · rw [if_pos hlt] at hK
    repeat' first
      | (refine facW_intro ?_; intro _)
      | refine Or.inl ?_
      | ((conv => whnf); first | (refine condW_dec ?_ ?_ <;> intro _ <;> try (exfalso; omega)) | refine condW_not ?_ | (refine condW_bool ?_ ?_ <;> intro _ <;> try (exfalso; omega)) | (refine nbC_t (fun _ => ?_) ?_) | (refine nbC_f ?_ (fun _ => ?_)))
      | refine And.intro (by first | omega | (simp only [Int.toNat_natCast] at *; omega) | (simp only [Nat.reduceAdd, Int.cast_ofNat_Int, true_and, and_true]; omega)  | kernel_rfl) ?_
      | refine RegW.run ?_
      | refine ⟨_, notScalar_sp E _, ?_⟩
      | fail
    all_goals first
      | (rename_i h
         have h : compB (l.getD k .zero) = false := h
         exact ⟨k + 1, ⟨by omega, by rw [hK, h, if_neg (by decide)]⟩, ⟨[], ⟨by kernel_rfl, by kernel_rfl, by kernel_rfl, by kernel_rfl, by kernel_rfl, by kernel_rfl, by kernel_rfl⟩, (by repeat' first | exact trivial | exact rfl | kernel_rfl | exact Dle.of_eq rfl | exact MLe.of_eq rfl | exact Dle.i (by omega) | exact Dle.i (by simp only [Int.toNat_natCast] at *; omega) | exact Dle.nil | exact Dle.rc Dle.nil | exact Option.some_ne_none _ | exact Or.inl rfl | exact Or.inr trivial | omega | (simp only [Int.toNat_natCast] at *; omega) | (intro _ _ _ _; exact Dle.of_eq rfl) | refine And.intro ?_ ?_)⟩, by first | omega | (dsimp only; omega)⟩)
      | exact Dle.i (by rw [hK, if_pos (by simp only [Int.toNat_natCast] at *; first | assumption | (rw [show ((k : Int) - 1).toNat = k - 1 by omega] at *; assumption))])
      | trace_state
  · rw [if_neg hlt] at hK
    repeat' first
      | (refine facW_intro ?_; intro _)
      | refine Or.inl ?_
      | ((conv => whnf); first | (refine condW_dec ?_ ?_ <;> intro _ <;> try (exfalso; omega)) | refine condW_not ?_ | (refine condW_bool ?_ ?_ <;> intro _ <;> try (exfalso; omega)) | (refine nbC_t (fun _ => ?_) ?_) | (refine nbC_f ?_ (fun _ => ?_)))
      | refine And.intro (by first | omega | (simp only [Int.toNat_natCast] at *; omega) | (simp only [Nat.reduceAdd, Int.cast_ofNat_Int, true_and, and_true]; omega)  | kernel_rfl) ?_
      | refine RegW.run ?_
      | fail
    exact Dle.i (by rw [hK])
theorem containsC_sp (l : List Vu) : Sp (cx Tryz.prog mixed tyT_ok E) 180 [.rc (.vals l), .fn 181 []] (dB (l.any compB)) := by
  have h := idxC_any l (l.length + 1) 0 (by omega)
  have ha : l.any compB = anyC l 0 := rfl
  have hi := indexC_sp E l
  rw [ha, ← h]
  generalize idxC l 0 = r at hi
  refine Sp.body Tryz.func180 (by kernel_rfl) rfl (by kernel_rfl) (by kernel_rfl) (by kernel_rfl) ?_
  repeat' first
    | (refine facW_intro ?_; intro _)
    | refine Or.inl ?_
    | ((conv => whnf); first | (refine condW_dec ?_ ?_ <;> intro _) | refine condW_not ?_ | (refine condW_bool ?_ ?_ <;> intro _) | (refine nbC_t (fun _ => ?_) ?_) | (refine nbC_f ?_ (fun _ => ?_)))
    | refine And.intro (by first | omega | (simp only [Int.toNat_natCast] at *; omega) | (simp only [Nat.reduceAdd, Int.cast_ofNat_Int, true_and, and_true]; omega)  | kernel_rfl) ?_
    | refine RegW.run ?_
    | refine ⟨_, hi, ?_⟩
    | fail
  all_goals exact Dle.refl _ _
theorem valueFault_sp2 (op : Int) (v : Vu) : Sp (cx Tryz.prog mixed tyT_ok E) 133 [i64 op, encV v] (dB (wrongB op v)) := by
  have hc := containsC_sp E v.items
  unfold wrongB
  generalize v.items.any compB = b at hc
  refine Sp.body Tryz.func133 (by kernel_rfl) rfl (by kernel_rfl) (by kernel_rfl) (by kernel_rfl) ?_
  repeat' first
    | (refine facW_intro ?_; intro _)
    | refine Or.inl ?_
    | ((conv => whnf); first | (refine condW_dec ?_ ?_ <;> intro _) | refine condW_not ?_ | (refine condW_bool ?_ ?_ <;> intro _) | (refine nbC_t (fun _ => ?_) ?_) | (refine nbC_f ?_ (fun _ => ?_)))
    | refine And.intro (by first | omega | (simp only [Int.toNat_natCast] at *; omega) | (simp only [Nat.reduceAdd, Int.cast_ofNat_Int, true_and, and_true]; omega)  | kernel_rfl) ?_
    | refine RegW.run ?_
    | refine ⟨_, hc, ?_⟩
    | refine ⟨_, scalar_sp E v, ?_⟩
    | fail
  all_goals first
    | exact Dle.bo (by grind)
    | trace_state
theorem condsOf_sp : ∀ (N : Nat) (c : Cd), SizeOf.sizeOf c < N → ccnt c ≤ 4611686018427387904 → Sp (cx Tryz.prog mixed tyT_ok E) 85 [encC c] (.tup [i64 (ccnt c), i64 (clvl c)])
  | 0, c, h, _ => by omega
  | N + 1, c, h, hb => by
    have ih := fun x (hx : x ∈ c.kids) => condsOf_sp N x (by have := kids_lt c x hx; omega) (by have := ccnt_mem c.kids x hx; rw [ccnt_eq] at hb; omega)
    have hlc := clvlL_le_cnt c.kids
    rw [ccnt_eq] at hb
    rw [ccnt_eq, clvl_eq]
    refine Sp.body Tryz.func85 (by kernel_rfl) rfl (by kernel_rfl) (by kernel_rfl) (by kernel_rfl) ?_
    repeat' first
      | (refine facW_intro ?_; intro _)
      | refine Or.inl ?_
      | ((conv => whnf); first | (refine condW_dec ?_ ?_ <;> intro _) | refine condW_not ?_ | (refine condW_bool ?_ ?_ <;> intro _) | (refine nbC_t (fun _ => ?_) ?_) | (refine nbC_f ?_ (fun _ => ?_)))
      | refine And.intro (by first | omega | (simp only [Int.toNat_natCast] at *; omega) | (simp only [Nat.reduceAdd, Int.cast_ofNat_Int, true_and, and_true]; omega)  | kernel_rfl) ?_
      | refine RegW.run ?_
      | fail
    refine ⟨Nat, fun k => [(11, i64 k), (2, i64 (ccntL (c.kids.take k) + 1 : Nat)), (3, i64 (clvlL (c.kids.take k)))], fun k => [], [], fun k => [], fun k => k ≤ c.kids.length, fun k => c.kids.length - k, ⟨0, by omega, ⟨[], ⟨by kernel_rfl, by kernel_rfl, by kernel_rfl, by kernel_rfl, by kernel_rfl, by kernel_rfl, by kernel_rfl⟩, (by repeat' first | exact trivial | exact rfl | kernel_rfl | exact Dle.of_eq rfl | exact MLe.of_eq rfl | exact Dle.i (by omega) | exact Dle.i (by simp only [Int.toNat_natCast] at *; omega) | exact Dle.nil | exact Dle.rc Dle.nil | exact Option.some_ne_none _ | exact Or.inl rfl | exact Or.inr trivial | omega | (simp only [Int.toNat_natCast] at *; omega) | (intro _ _ _ _; exact Dle.of_eq rfl) | refine And.intro ?_ ?_)⟩⟩, fun k hk => ?_⟩
    have hk : k ≤ c.kids.length := hk
    by_cases hlt : k < c.kids.length
    · have h1 := ccntL_take c.kids k
      have h2 := ccntL_take c.kids (k + 1)
      rw [take_snoc c.kids .zero k hlt, ccntL_app] at h2
      repeat' first
        | (refine facW_intro ?_; intro _)
        | refine Or.inl ?_
        | ((conv => whnf); first | (refine condW_dec ?_ ?_ <;> intro _ <;> try (exfalso; omega)) | refine condW_not ?_ | (refine condW_bool ?_ ?_ <;> intro _ <;> try (exfalso; omega)) | (refine nbC_t (fun _ => ?_) ?_) | (refine nbC_f ?_ (fun _ => ?_)))
        | refine And.intro (by first | omega | (simp only [Int.toNat_natCast] at *; omega) | (simp only [Nat.reduceAdd, Int.cast_ofNat_Int, true_and, and_true]; omega)  | kernel_rfl) ?_
        | refine RegW.run ?_
        | refine ⟨_, ih _ (getD_mem c.kids .zero k hlt), ?_⟩
        | fail
      have e1 : ccntL (c.kids.take (k + 1)) = ccntL (c.kids.take k) + ccnt (c.kids.getD k .zero) := by rw [take_snoc c.kids .zero k hlt, ccntL_app]
      have e2 : clvlL (c.kids.take (k + 1)) = max (clvlL (c.kids.take k)) (clvl (c.kids.getD k .zero)) := by rw [take_snoc c.kids .zero k hlt, clvlL_app]
      exact ⟨k + 1, hlt, ⟨[], ⟨by kernel_rfl, by kernel_rfl, by kernel_rfl, by kernel_rfl, by kernel_rfl, by kernel_rfl, by kernel_rfl⟩, (by repeat' first | exact trivial | exact rfl | kernel_rfl | exact Dle.of_eq rfl | exact MLe.of_eq rfl | exact Dle.i (by omega) | exact Dle.i (by simp only [Int.toNat_natCast] at *; omega) | exact Dle.nil | exact Dle.rc Dle.nil | exact Option.some_ne_none _ | exact Or.inl rfl | exact Or.inr trivial | omega | (simp only [Int.toNat_natCast] at *; omega) | (intro _ _ _ _; exact Dle.of_eq rfl) | refine And.intro ?_ ?_)⟩, by first | omega | (dsimp only; omega)⟩
    · have : k = c.kids.length := by omega
      subst this
      have e : c.kids.take c.kids.length = c.kids := List.take_length
      rw [← e] at hb hlc
      repeat' first
        | (refine facW_intro ?_; intro _)
        | refine Or.inl ?_
        | ((conv => whnf); first | (refine condW_dec ?_ ?_ <;> intro _ <;> try (exfalso; omega)) | refine condW_not ?_ | (refine condW_bool ?_ ?_ <;> intro _ <;> try (exfalso; omega)) | (refine nbC_t (fun _ => ?_) ?_) | (refine nbC_f ?_ (fun _ => ?_)))
        | refine And.intro (by first | omega | (simp only [Int.toNat_natCast] at *; omega) | (simp only [Nat.reduceAdd, Int.cast_ofNat_Int, true_and, and_true]; omega)  | kernel_rfl) ?_
        | refine RegW.run ?_
        | fail
      exact Dle.tup (X := (cx Tryz.prog mixed tyT_ok E)) ⟨Dle.i (by rw [e]), Dle.i (by rw [e]; omega), trivial⟩
end
end Go.Proofs.YtemiaognopgnnaaGreatDoor
