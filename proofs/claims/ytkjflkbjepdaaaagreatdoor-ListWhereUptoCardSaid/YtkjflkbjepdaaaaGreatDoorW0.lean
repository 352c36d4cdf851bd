/-
  Conditions: counts, levels; zero values, kinds, reserved words.
-/
import Derived.Test.YtkjflkbjepdaaaaGreatDoorQ8
namespace Go.Proofs.YtkjflkbjepdaaaaGreatDoor
open Go.RowKit
set_option linter.unusedVariables false
set_option linter.unusedSimpArgs false
theorem kids_lt (c x : Cd) (h : x ∈ c.kids) : SizeOf.sizeOf x < SizeOf.sizeOf c := by
  cases c with
  | mk o r v l =>
    have := List.sizeOf_lt_of_mem h
    simp only [Cd.kids] at this
    simp
    omega
mutual
def clvl : Cd → Nat
  | .mk _ _ _ l => clvlL l + 1
def clvlL : List Cd → Nat
  | [] => 0
  | x :: r => max (clvl x) (clvlL r)
end
theorem clvl_eq (c : Cd) : clvl c = clvlL c.kids + 1 := by cases c; simp [clvl, Cd.kids]
theorem clvlL_app (l : List Cd) (x : Cd) : clvlL (l ++ [x]) = max (clvlL l) (clvl x) := by
  induction l with
  | nil => simp [clvlL]
  | cons a l ih => simp only [List.cons_append, clvlL, ih]; omega
theorem clvl_mem (l : List Cd) (x : Cd) (h : x ∈ l) : clvl x ≤ clvlL l := by
  induction l with
  | nil => cases h
  | cons a l ih =>
    rcases List.mem_cons.1 h with rfl | h
    · simp [clvlL]; omega
    · have := ih h; simp [clvlL]; omega
mutual
def ccnt : Cd → Nat
  | .mk _ _ _ l => ccntL l + 1
def ccntL : List Cd → Nat
  | [] => 0
  | x :: r => ccnt x + ccntL r
end
theorem ccnt_eq (c : Cd) : ccnt c = ccntL c.kids + 1 := by cases c; simp [ccnt, Cd.kids]
theorem ccntL_app (l : List Cd) (x : Cd) : ccntL (l ++ [x]) = ccntL l + ccnt x := by
  induction l with
  | nil => simp [ccntL]
  | cons a l ih => simp only [List.cons_append, ccntL, ih]; omega
theorem ccnt_mem (l : List Cd) (x : Cd) (h : x ∈ l) : ccnt x ≤ ccntL l := by
  induction l with
  | nil => cases h
  | cons a l ih =>
    rcases List.mem_cons.1 h with rfl | h
    · simp [ccntL]
    · have := ih h; simp [ccntL]; omega
theorem ccntL_take (l : List Cd) (k : Nat) : ccntL (l.take k) ≤ ccntL l := by
  induction l generalizing k with
  | nil => simp [ccntL]
  | cons a l ih => cases k with
    | zero => simp [ccntL]
    | succ k => have := ih k; simp only [List.take_succ_cons, ccntL]; omega
mutual
theorem clvl_le_cnt : ∀ c : Cd, clvl c ≤ ccnt c
  | .mk _ _ _ l => by have := clvlL_le_cnt l; simp only [clvl, ccnt]; omega
theorem clvlL_le_cnt : ∀ l : List Cd, clvlL l ≤ ccntL l
  | [] => by simp [clvlL]
  | x :: r => by have := clvl_le_cnt x; have := clvlL_le_cnt r; simp only [clvlL, ccntL]; omega
end
mutual
/-- What a count with a limit answers. -/
def cmany : Cd → Nat
  | .mk _ _ _ l => cmanyL l 1
def cmanyL : List Cd → Nat → Nat
  | [], n => n
  | x :: r, n => if 200 < n then n else cmanyL r (n + cmany x)
end
theorem cmany_eq (c : Cd) : cmany c = cmanyL c.kids 1 := by cases c; simp [cmany, Cd.kids]
mutual
theorem cmany_cnt : ∀ c : Cd, cmany c ≤ ccnt c ∧ (cmany c ≤ 200 → cmany c = ccnt c)
  | .mk _ _ _ l => by have := cmanyL_cnt l 1; simp only [cmany, ccnt]; omega
theorem cmanyL_cnt : ∀ (l : List Cd) (n : Nat), cmanyL l n ≤ n + ccntL l ∧ (cmanyL l n ≤ 200 → cmanyL l n = n + ccntL l) ∧ n ≤ cmanyL l n
  | [], n => by simp [cmanyL, ccntL]
  | x :: r, n => by
    have h1 := cmany_cnt x
    have h2 := cmanyL_cnt r (n + cmany x)
    simp only [cmanyL, ccntL]
    split <;> omega
end
theorem cmanyL_drop {l : List Cd} {k n : Nat} (h : k < l.length) : cmanyL (l.drop k) n = if 200 < n then n else cmanyL (l.drop (k + 1)) (n + cmany (l.getD k .zero)) := by
  rw [drop_cons l .zero k h]; simp only [cmanyL]
theorem cmanyL_end {l : List Cd} {k n : Nat} (h : l.length ≤ k) : cmanyL (l.drop k) n = n := by rw [List.drop_of_length_le h]; rfl
/-- A value of zeros. -/
def zeroP (v : Vu) : Prop := v.kind = 0 ∧ v.b = false ∧ v.i = 0 ∧ v.text = ⟨#[]⟩ ∧ v.items.length = 0 ∧ v.keys.length = 0
instance (v : Vu) : Decidable (zeroP v) := by unfold zeroP; infer_instance
def compB (v : Vu) : Bool := decide (v.kind = 5) || decide (v.kind = 6)
def resWords : List ByteArray := [⟨#[97, 110, 100]⟩, ⟨#[111, 114]⟩, ⟨#[110, 111, 116]⟩, ⟨#[104, 97, 115]⟩, ⟨#[105, 110]⟩, ⟨#[98, 101, 103, 105, 110, 115]⟩]
def resB (s : ByteArray) : Bool := decide (s = ⟨#[97, 110, 100]⟩) || decide (s = ⟨#[111, 114]⟩) || decide (s = ⟨#[110, 111, 116]⟩) || decide (s = ⟨#[104, 97, 115]⟩) || decide (s = ⟨#[105, 110]⟩) || decide (s = ⟨#[98, 101, 103, 105, 110, 115]⟩)
/-- An operation cannot have a value. -/
def wrongB (op : Int) (v : Vu) : Bool := if op = 12 then (!decide (v.kind = 5) || v.items.any compB) else if op = 13 then !decide (v.kind = 3) else compB v
section
variable (E : Env)
set_option maxRecDepth 100000
theorem cdeep_sp : ∀ (N : Nat) (c : Cd), SizeOf.sizeOf c < N → clvl c ≤ 4611686018427387904 → Sp (cx Tryz.prog mixed tyT_ok E) 57 [encC c] (i64 (clvl c))
  | 0, c, h, _ => by omega
  | N + 1, c, h, hb => by
    have ih := fun x (hx : x ∈ c.kids) => cdeep_sp N x (by have := kids_lt c x hx; omega) (by have := clvl_mem c.kids x hx; rw [clvl_eq] at hb; omega)
    rw [clvl_eq] at hb ⊢
    refine Sp.body Tryz.func57 (by kernel_rfl) rfl (by kernel_rfl) (by kernel_rfl) (by kernel_rfl) ?_
    repeat' first
      | (refine facW_intro ?_; intro _)
      | refine Or.inl ?_
      | ((conv => whnf); first | (refine condW_dec ?_ ?_ <;> intro _) | refine condW_not ?_ | (refine condW_bool ?_ ?_ <;> intro _) | (refine nbC_t (fun _ => ?_) ?_) | (refine nbC_f ?_ (fun _ => ?_)))
      | refine And.intro (by first | omega | (simp only [Int.toNat_natCast] at *; omega) | (simp only [Nat.reduceAdd, Int.cast_ofNat_Int, true_and, and_true]; omega) | kernel_rfl) ?_
      | refine RegW.run ?_
      | fail
    refine ⟨Nat, fun k => [(3, i64 (clvlL (c.kids.take k))), (9, i64 k)], fun k => [], [], fun k => [], fun k => k ≤ c.kids.length, fun k => c.kids.length - k, ⟨0, by omega, ⟨[], ⟨by kernel_rfl, by kernel_rfl, by kernel_rfl, by kernel_rfl, by kernel_rfl, by kernel_rfl, by kernel_rfl⟩, (by repeat' first | exact trivial | exact rfl | kernel_rfl | exact Dle.of_eq rfl | exact MLe.of_eq rfl | exact Dle.i (by omega) | exact Dle.i (by simp only [Int.toNat_natCast] at *; omega) | exact Dle.nil | exact Dle.rc Dle.nil | exact Option.some_ne_none _ | exact Or.inl rfl | exact Or.inr trivial | omega | (simp only [Int.toNat_natCast] at *; omega) | (intro _ _ _ _; exact Dle.of_eq rfl) | refine And.intro ?_ ?_)⟩⟩, fun k hk => ?_⟩
    have hk : k ≤ c.kids.length := hk
    by_cases hlt : k < c.kids.length
    · repeat' first
        | (refine facW_intro ?_; intro _)
        | refine Or.inl ?_
        | ((conv => whnf); first | (refine condW_dec ?_ ?_ <;> intro _ <;> try (exfalso; omega)) | refine condW_not ?_ | (refine condW_bool ?_ ?_ <;> intro _ <;> try (exfalso; omega)) | (refine nbC_t (fun _ => ?_) ?_) | (refine nbC_f ?_ (fun _ => ?_)))
        | refine And.intro (by first | omega | (simp only [Int.toNat_natCast] at *; omega) | (simp only [Nat.reduceAdd, Int.cast_ofNat_Int, true_and, and_true]; omega) | kernel_rfl) ?_
        | refine RegW.run ?_
        | refine ⟨_, ih _ (getD_mem c.kids .zero k hlt), ?_⟩
        | fail
      have e1 : clvlL (c.kids.take (k + 1)) = max (clvlL (c.kids.take k)) (clvl (c.kids.getD k .zero)) := by rw [take_snoc c.kids .zero k hlt, clvlL_app]
      exact ⟨k + 1, hlt, ⟨[], ⟨by kernel_rfl, by kernel_rfl, by kernel_rfl, by kernel_rfl, by kernel_rfl, by kernel_rfl, by kernel_rfl⟩, (by repeat' first | exact trivial | exact rfl | kernel_rfl | exact Dle.of_eq rfl | exact MLe.of_eq rfl | exact Dle.i (by omega) | exact Dle.i (by simp only [Int.toNat_natCast] at *; omega) | exact Dle.nil | exact Dle.rc Dle.nil | exact Option.some_ne_none _ | exact Or.inl rfl | exact Or.inr trivial | omega | (simp only [Int.toNat_natCast] at *; omega) | (intro _ _ _ _; exact Dle.of_eq rfl) | refine And.intro ?_ ?_)⟩, by first | omega | (dsimp only; omega)⟩
    · have : k = c.kids.length := by omega
      subst this
      have e : c.kids.take c.kids.length = c.kids := List.take_length
      rw [← e] at hb
      repeat' first
        | (refine facW_intro ?_; intro _)
        | refine Or.inl ?_
        | ((conv => whnf); first | (refine condW_dec ?_ ?_ <;> intro _ <;> try (exfalso; omega)) | refine condW_not ?_ | (refine condW_bool ?_ ?_ <;> intro _ <;> try (exfalso; omega)) | (refine nbC_t (fun _ => ?_) ?_) | (refine nbC_f ?_ (fun _ => ?_)))
        | refine And.intro (by first | omega | (simp only [Int.toNat_natCast] at *; omega) | (simp only [Nat.reduceAdd, Int.cast_ofNat_Int, true_and, and_true]; omega) | kernel_rfl) ?_
        | refine RegW.run ?_
        | fail
      exact Dle.i (by rw [e]; omega)
theorem cmany_sp : ∀ (N : Nat) (c : Cd), SizeOf.sizeOf c < N → ccnt c ≤ 4611686018427387904 → Sp (cx Tryz.prog mixed tyT_ok E) 56 [encC c] (i64 (cmany c))
  | 0, c, h, _ => by omega
  | N + 1, c, h, hb => by
    have ih := fun x (hx : x ∈ c.kids) => cmany_sp N x (by have := kids_lt c x hx; omega) (by have := ccnt_mem c.kids x hx; rw [ccnt_eq] at hb; omega)
    rw [ccnt_eq] at hb
    obtain ⟨r, hr⟩ : ∃ r, r = cmany c := ⟨_, rfl⟩
    rw [← hr]
    rw [cmany_eq] at hr
    have hrb := (cmanyL_cnt c.kids 1).1
    refine Sp.body Tryz.func56 (by kernel_rfl) rfl (by kernel_rfl) (by kernel_rfl) (by kernel_rfl) ?_
    repeat' first
      | (refine facW_intro ?_; intro _)
      | refine Or.inl ?_
      | ((conv => whnf); first | (refine condW_dec ?_ ?_ <;> intro _) | refine condW_not ?_ | (refine condW_bool ?_ ?_ <;> intro _) | (refine nbC_t (fun _ => ?_) ?_) | (refine nbC_f ?_ (fun _ => ?_)))
      | refine And.intro (by first | omega | (simp only [Int.toNat_natCast] at *; omega) | (simp only [Nat.reduceAdd, Int.cast_ofNat_Int, true_and, and_true]; omega) | kernel_rfl) ?_
      | refine RegW.run ?_
      | fail
    refine ⟨Nat × Nat, fun k => [(3, i64 k.2), (9, i64 k.1)], fun k => [], [], fun k => [], fun k => k.1 ≤ c.kids.length ∧ r = cmanyL (c.kids.drop k.1) k.2, fun k => c.kids.length - k.1, ⟨(0, 1), ⟨by omega, hr⟩, ⟨[], ⟨by kernel_rfl, by kernel_rfl, by kernel_rfl, by kernel_rfl, by kernel_rfl, by kernel_rfl, by kernel_rfl⟩, (by repeat' first | exact trivial | exact rfl | kernel_rfl | exact Dle.of_eq rfl | exact MLe.of_eq rfl | exact Dle.i (by omega) | exact Dle.i (by simp only [Int.toNat_natCast] at *; omega) | exact Dle.nil | exact Dle.rc Dle.nil | exact Option.some_ne_none _ | exact Or.inl rfl | exact Or.inr trivial | omega | (simp only [Int.toNat_natCast] at *; omega) | (intro _ _ _ _; exact Dle.of_eq rfl) | refine And.intro ?_ ?_)⟩⟩, fun k hk => ?_⟩
    obtain ⟨hk, hK⟩ := hk
    by_cases hlt : k.1 < c.kids.length
    · rw [cmanyL_drop hlt] at hK
      have h1 := (cmany_cnt (c.kids.getD k.1 .zero)).1
      have h2 := ccnt_mem c.kids _ (getD_mem c.kids .zero k.1 hlt)
      have hc := ih _ (getD_mem c.kids .zero k.1 hlt)
      generalize cmany (c.kids.getD k.1 .zero) = m at hK hc h1
      repeat' first
        | (refine facW_intro ?_; intro _)
        | refine Or.inl ?_
        | ((conv => whnf); first | (refine condW_dec ?_ ?_ <;> intro _ <;> try (exfalso; omega)) | refine condW_not ?_ | (refine condW_bool ?_ ?_ <;> intro _ <;> try (exfalso; omega)) | (refine nbC_t (fun _ => ?_) ?_) | (refine nbC_f ?_ (fun _ => ?_)))
        | refine And.intro (by first | omega | (simp only [Int.toNat_natCast] at *; omega) | (simp only [Nat.reduceAdd, Int.cast_ofNat_Int, true_and, and_true]; omega) | kernel_rfl) ?_
        | refine RegW.run ?_
        | refine ⟨_, hc, ?_⟩
        | fail
      all_goals first
        | exact ⟨(k.1 + 1, k.2 + m), ⟨by dsimp only; omega, by rw [hK, if_neg (by omega)]⟩, ⟨[], ⟨by kernel_rfl, by kernel_rfl, by kernel_rfl, by kernel_rfl, by kernel_rfl, by kernel_rfl, by kernel_rfl⟩, (by repeat' first | exact trivial | exact rfl | kernel_rfl | exact Dle.of_eq rfl | exact MLe.of_eq rfl | exact Dle.i (by omega) | exact Dle.i (by simp only [Int.toNat_natCast] at *; omega) | exact Dle.nil | exact Dle.rc Dle.nil | exact Option.some_ne_none _ | exact Or.inl rfl | exact Or.inr trivial | omega | (simp only [Int.toNat_natCast] at *; omega) | (intro _ _ _ _; exact Dle.of_eq rfl) | refine And.intro ?_ ?_)⟩, by first | omega | (dsimp only; omega)⟩
        | exact Dle.i (by rw [hK, if_pos (by omega)])
        | trace_state
    · rw [cmanyL_end (by omega)] at hK
      repeat' first
        | (refine facW_intro ?_; intro _)
        | refine Or.inl ?_
        | ((conv => whnf); first | (refine condW_dec ?_ ?_ <;> intro _ <;> try (exfalso; omega)) | refine condW_not ?_ | (refine condW_bool ?_ ?_ <;> intro _ <;> try (exfalso; omega)) | (refine nbC_t (fun _ => ?_) ?_) | (refine nbC_f ?_ (fun _ => ?_)))
        | refine And.intro (by first | omega | (simp only [Int.toNat_natCast] at *; omega) | (simp only [Nat.reduceAdd, Int.cast_ofNat_Int, true_and, and_true]; omega) | kernel_rfl) ?_
        | refine RegW.run ?_
        | fail
      exact Dle.i (by rw [hK])
theorem zero_sp (v : Vu) : Sp (cx Tryz.prog mixed tyT_ok E) 172 [encV v] (dB (decide (zeroP v))) := by
  refine Sp.body Tryz.func172 (by kernel_rfl) rfl (by kernel_rfl) (by kernel_rfl) (by kernel_rfl) ?_
  repeat' first
    | (refine facW_intro ?_; intro _)
    | refine Or.inl ?_
    | ((conv => whnf); first | (refine condW_dec ?_ ?_ <;> intro _ <;> try (exfalso; omega)) | refine condW_not ?_ | (refine condW_bool ?_ ?_ <;> intro _ <;> try (exfalso; omega)) | (refine nbC_t (fun _ => ?_) ?_) | (refine nbC_f ?_ (fun _ => ?_)))
    | refine And.intro (by first | omega | (simp only [Int.toNat_natCast] at *; omega) | (simp only [Nat.reduceAdd, Int.cast_ofNat_Int, true_and, and_true]; omega) | kernel_rfl) ?_
    | refine RegW.run ?_
    | fail
  all_goals first
    | exact Dle.bo (by unfold zeroP; grind)
    | trace_state
theorem compound_sp (v : Vu) : Sp (cx Tryz.prog mixed tyT_ok E) 212 [encV v] (dB (compB v)) := by
  refine Sp.body Tryz.func212 (by kernel_rfl) rfl (by kernel_rfl) (by kernel_rfl) (by kernel_rfl) ?_
  repeat' first
    | (refine facW_intro ?_; intro _)
    | refine Or.inl ?_
    | ((conv => whnf); first | (refine condW_dec ?_ ?_ <;> intro _ <;> try (exfalso; omega)) | refine condW_not ?_ | (refine condW_bool ?_ ?_ <;> intro _ <;> try (exfalso; omega)) | (refine nbC_t (fun _ => ?_) ?_) | (refine nbC_f ?_ (fun _ => ?_)))
    | refine And.intro (by first | omega | (simp only [Int.toNat_natCast] at *; omega) | (simp only [Nat.reduceAdd, Int.cast_ofNat_Int, true_and, and_true]; omega) | kernel_rfl) ?_
    | refine RegW.run ?_
    | fail
  all_goals first
    | exact Dle.bo (by unfold compB; grind)
    | trace_state
theorem reserved_sp (s : ByteArray) : Sp (cx Tryz.prog mixed tyT_ok E) 211 [dS s] (dB (resB s)) := by
  refine Sp.body Tryz.func211 (by kernel_rfl) rfl (by kernel_rfl) (by kernel_rfl) (by kernel_rfl) ?_
  repeat' first
    | (refine facW_intro ?_; intro _)
    | refine Or.inl ?_
    | ((conv => whnf); first | (refine condW_dec ?_ ?_ <;> intro _) | refine condW_not ?_ | (refine condW_bool ?_ ?_ <;> intro _) | (refine nbC_t (fun _ => ?_) ?_) | (refine nbC_f ?_ (fun _ => ?_)))
    | refine And.intro (by first | omega | (simp only [Int.toNat_natCast] at *; omega) | (simp only [Nat.reduceAdd, Int.cast_ofNat_Int, true_and, and_true]; omega) | kernel_rfl) ?_
    | refine RegW.run ?_
    | fail
  all_goals first
    | exact Dle.bo (by unfold resB; simp_all)
    | trace_state
end
end Go.Proofs.YtkjflkbjepdaaaaGreatDoor
