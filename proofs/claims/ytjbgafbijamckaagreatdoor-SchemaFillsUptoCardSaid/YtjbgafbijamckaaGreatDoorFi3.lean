/-
  The order of values: conf.Compare and the reference's CompareOf. conf.Compare and the reference's CompareOf. The same value: the reference's SameOf, in general. Fill answers as the reference's FillOf: the law's walk.
-/
import Derived.Test.YtjbgafbijamckaaGreatDoorShelf
import Derived.Test.YtjbgafbijamckaaGreatDoorQ8
import Derived.Test.YtjbgafbijamckaaGreatDoorFi1
import Derived.Test.YtjbgafbijamckaaGreatDoorFi2
import Derived.Test.YtjbgafbijamckaaGreatDoorK3
namespace Go.Proofs.YtjbgafbijamckaaGreatDoor
open Go.RowKit
set_option linter.unusedVariables false
set_option linter.unusedSimpArgs false
def sgn (a b : Int) : Int := if a < b then -1 else if b < a then 1 else 0
def bitI (b : Bool) : Int := if b = true then 1 else 0
def cmpS (a b : ByteArray) : Int := Lib.compareBytes a.data.toList b.data.toList
theorem cmpS_less : ∀ a b : List UInt8, Lib.compareBytes a b = if Op.bytesLess a b then -1 else if (!(Op.bytesLess a b || a == b)) then 1 else 0
  | [], [] => rfl
  | [], _ :: _ => rfl
  | _ :: _, [] => rfl
  | x :: a, y :: b => by
    rw [Lib.compareBytes, cmpS_less a b, Op.bytesLess]
    by_cases h : x < y
    · simp [h]
    · by_cases h2 : y < x
      · have : x ≠ y := fun e => by subst e; exact h h2
        simp [h, h2, this]
      · have : x = y := UInt8.le_antisymm (UInt8.not_lt.1 h2) (UInt8.not_lt.1 h)
        subst this
        simp [h]
theorem cmpS_lt (a b : ByteArray) : cmpS a b = if strLt a b = true then -1 else if (strLt a b || decide (a = b)) = false then 1 else 0 := by
  unfold cmpS strLt
  rw [cmpS_less]
  have e1 : ∀ s : ByteArray, s.toList = s.data.toList := fun s => ByteArray.toList_eq ..
  have e2 : decide (a = b) = (a.data.toList == b.data.toList) := by
    rw [Bool.eq_iff_iff]
    simp only [decide_eq_true_eq, beq_iff_eq]
    constructor
    · intro h; rw [h]
    · intro h
      cases a with | mk a => cases b with | mk b => exact congrArg _ (Array.toList_inj.1 h)
  rw [e1, e1, e2]
  split
  · rfl
  · split <;> simp_all
/-- The order of rows of keys from a place on. -/
def cmpK (a b : List ByteArray) (k : Nat) : Int := if k < a.length ∧ k < b.length then (if cmpS (a.getD k ⟨#[]⟩) (b.getD k ⟨#[]⟩) = 0 then cmpK a b (k + 1) else cmpS (a.getD k ⟨#[]⟩) (b.getD k ⟨#[]⟩)) else sgn a.length b.length
  termination_by a.length - k
theorem cmpK_end {a b : List ByteArray} {k : Nat} (h : ¬ (k < a.length ∧ k < b.length)) : cmpK a b k = sgn a.length b.length := by rw [cmpK, if_neg h]
theorem cmpK_eq {a b : List ByteArray} {k : Nat} (h : k < a.length ∧ k < b.length) (h2 : cmpS (a.getD k ⟨#[]⟩) (b.getD k ⟨#[]⟩) = 0) : cmpK a b k = cmpK a b (k + 1) := by rw [cmpK, if_pos h, if_pos h2]
theorem cmpK_ne {a b : List ByteArray} {k : Nat} (h : k < a.length ∧ k < b.length) (h2 : ¬ cmpS (a.getD k ⟨#[]⟩) (b.getD k ⟨#[]⟩) = 0) : cmpK a b k = cmpS (a.getD k ⟨#[]⟩) (b.getD k ⟨#[]⟩) := by rw [cmpK, if_pos h, if_neg h2]
/-- The order of what is not an item. -/
def cmpH (a b : Vu) : Int :=
  if sgn a.kind b.kind ≠ 0 then sgn a.kind b.kind else if sgn (bitI a.b) (bitI b.b) ≠ 0 then sgn (bitI a.b) (bitI b.b) else if sgn a.i b.i ≠ 0 then sgn a.i b.i else if cmpS a.text b.text ≠ 0 then cmpS a.text b.text else cmpK a.keys b.keys 0
mutual
def cmpV : Vu → Vu → Int
  | .mk k b i t l ks, w => if cmpH (.mk k b i t l ks) w ≠ 0 then cmpH (.mk k b i t l ks) w else cmpL l w.items
def cmpL : List Vu → List Vu → Int
  | [], [] => 0
  | [], _ :: _ => -1
  | _ :: _, [] => 1
  | x :: r, y :: s => if cmpV x y ≠ 0 then cmpV x y else cmpL r s
end
theorem cmpV_eq (a b : Vu) : cmpV a b = if cmpH a b ≠ 0 then cmpH a b else cmpL a.items b.items := by cases a; simp only [cmpV, Vu.items]
theorem cmpL_drop {a b : List Vu} {k : Nat} (h1 : k < a.length) (h2 : k < b.length) : cmpL (a.drop k) (b.drop k) = if cmpV (a.getD k .zero) (b.getD k .zero) ≠ 0 then cmpV (a.getD k .zero) (b.getD k .zero) else cmpL (a.drop (k + 1)) (b.drop (k + 1)) := by
  rw [drop_cons a .zero k h1, drop_cons b .zero k h2]; simp only [cmpL]
theorem cmpL_end {a b : List Vu} {k : Nat} (hk : k ≤ a.length) (hk2 : k ≤ b.length) (h : ¬ (k < a.length ∧ k < b.length)) : cmpL (a.drop k) (b.drop k) = sgn a.length b.length := by
  rcases Nat.lt_or_ge k a.length with h1 | h1
  · have h2 : k = b.length := by omega
    rw [drop_cons a .zero k h1, List.drop_of_length_le (by omega : b.length ≤ k)]
    simp only [cmpL, sgn]
    rw [if_neg (by omega), if_pos (by omega)]
  · rw [List.drop_of_length_le h1]
    rcases Nat.lt_or_ge k b.length with h3 | h3
    · rw [drop_cons b .zero k h3]
      simp only [cmpL, sgn]
      rw [if_pos (by omega)]
    · rw [List.drop_of_length_le h3]
      simp only [cmpL, sgn]
      rw [if_neg (by omega), if_neg (by omega)]
section
variable (E : Env)
set_option maxRecDepth 100000
theorem strCmp_sp (a b : ByteArray) : Sp (cx Tryz.prog mixed tyT_ok E) 51 [dS a, dS b] (i64 (cmpS a b)) :=
  Sp.of_v (vs := [.string a, .string b]) ⟨_, _, Tryz.func51, by kernel_rfl, rfl⟩ rfl (fun w _ => (Tryz.strings_Compare a b w).mono fun e w' ⟨he, hb⟩ => ⟨he, hb ▸ Below.refl _ _⟩)
theorem isNaNi_sp (a : Int) : Sp (cx Tryz.prog mixed tyT_ok E) 75 [i64 a] (dB false) := by
  refine Sp.body Tryz.func75 (by kernel_rfl) rfl (by kernel_rfl) (by kernel_rfl) (by kernel_rfl) ?_
  repeat' first
    | (refine facW_intro ?_; intro _)
    | refine Or.inl ?_
    | ((conv => whnf); first | (refine condW_dec ?_ ?_ <;> intro _) | refine condW_not ?_ | (refine condW_bool ?_ ?_ <;> intro _) | (refine nbC_t (fun _ => ?_) ?_) | (refine nbC_f ?_ (fun _ => ?_)))
    | refine And.intro (by first | omega | (simp only [Int.toNat_natCast] at *; omega) | (simp only [Nat.reduceAdd, Int.cast_ofNat_Int, true_and, and_true]; omega)  | kernel_rfl) ?_
    | refine RegW.run ?_
    | fail
  exact Dle.bo (by simp)
theorem isNaNs_sp (a : ByteArray) : Sp (cx Tryz.prog mixed tyT_ok E) 99 [dS a] (dB false) := by
  refine Sp.body Tryz.func99 (by kernel_rfl) rfl (by kernel_rfl) (by kernel_rfl) (by kernel_rfl) ?_
  repeat' first
    | (refine facW_intro ?_; intro _)
    | refine Or.inl ?_
    | ((conv => whnf); first | (refine condW_dec ?_ ?_ <;> intro _) | refine condW_not ?_ | (refine condW_bool ?_ ?_ <;> intro _) | (refine nbC_t (fun _ => ?_) ?_) | (refine nbC_f ?_ (fun _ => ?_)))
    | refine And.intro (by first | omega | (simp only [Int.toNat_natCast] at *; omega) | (simp only [Nat.reduceAdd, Int.cast_ofNat_Int, true_and, and_true]; omega)  | kernel_rfl) ?_
    | refine RegW.run ?_
    | fail
  exact Dle.bo (by simp)
theorem cmpI_sp (a b : Int) : Sp (cx Tryz.prog mixed tyT_ok E) 49 [i64 a, i64 b] (i64 (sgn a b)) := by
  refine Sp.body Tryz.func49 (by kernel_rfl) rfl (by kernel_rfl) (by kernel_rfl) (by kernel_rfl) ?_
  repeat' first
    | (refine facW_intro ?_; intro _)
    | refine Or.inl ?_
    | ((conv => whnf); first | (refine condW_dec ?_ ?_ <;> intro _) | refine condW_not ?_ | (refine condW_bool ?_ ?_ <;> intro _) | (refine nbC_t (fun _ => ?_) ?_) | (refine nbC_f ?_ (fun _ => ?_)))
    | refine And.intro (by first | omega | (simp only [Int.toNat_natCast] at *; omega) | (simp only [Nat.reduceAdd, Int.cast_ofNat_Int, true_and, and_true]; omega)  | kernel_rfl) ?_
    | refine RegW.run ?_
    | refine ⟨_, isNaNi_sp E _, ?_⟩
    | fail
  all_goals exact Dle.i (by unfold sgn; grind)
theorem cmpStr_sp (a b : ByteArray) : Sp (cx Tryz.prog mixed tyT_ok E) 77 [dS a, dS b] (i64 (cmpS a b)) := by
  have h := cmpS_lt a b
  refine Sp.body Tryz.func77 (by kernel_rfl) rfl (by kernel_rfl) (by kernel_rfl) (by kernel_rfl) ?_
  repeat' first
    | (refine facW_intro ?_; intro _)
    | refine Or.inl ?_
    | ((conv => whnf); first | (refine condW_dec ?_ ?_ <;> intro _) | refine condW_not ?_ | (refine condW_bool ?_ ?_ <;> intro _) | (refine nbC_t (fun _ => ?_) ?_) | (refine nbC_f ?_ (fun _ => ?_)))
    | refine And.intro (by first | omega | (simp only [Int.toNat_natCast] at *; omega) | (simp only [Nat.reduceAdd, Int.cast_ofNat_Int, true_and, and_true]; omega)  | kernel_rfl) ?_
    | refine RegW.run ?_
    | refine ⟨_, isNaNs_sp E _, ?_⟩
    | fail
  all_goals first
    | exact Dle.i (by rw [h]; grind)
    | exact Dle.i (by rw [h]; simp_all)
    | trace_state
theorem orV_sp (a b c : Int) : Sp (cx Tryz.prog mixed tyT_ok E) 50 [.sl 1 8 3 (fun i _ => i64 (([a, b, c] : List Int).getD i 0))] (i64 (if a ≠ 0 then a else if b ≠ 0 then b else c)) := by
  obtain ⟨r, hr⟩ : ∃ r, r = if a ≠ 0 then a else if b ≠ 0 then b else c := ⟨_, rfl⟩
  rw [← hr]
  refine Sp.body Tryz.func50 (by kernel_rfl) rfl (by kernel_rfl) (by kernel_rfl) (by kernel_rfl) ?_
  repeat' first
    | (refine facW_intro ?_; intro _)
    | refine Or.inl ?_
    | ((conv => whnf); first | (refine condW_dec ?_ ?_ <;> intro _) | refine condW_not ?_ | (refine condW_bool ?_ ?_ <;> intro _) | (refine nbC_t (fun _ => ?_) ?_) | (refine nbC_f ?_ (fun _ => ?_)))
    | refine And.intro (by first | omega | (simp only [Int.toNat_natCast] at *; omega) | (simp only [Nat.reduceAdd, Int.cast_ofNat_Int, true_and, and_true]; omega)  | kernel_rfl) ?_
    | refine RegW.run ?_
    | fail
  refine ⟨Nat, fun k => [(8, i64 k)], fun k => [], [], fun k => [], fun k => k ≤ 3 ∧ (∀ i, i < k → ([a, b, c] : List Int).getD i 0 = 0), fun k => 3 - k, ⟨0, ⟨by omega, fun i hi => by omega⟩, ⟨[], ⟨by kernel_rfl, by kernel_rfl, by kernel_rfl, by kernel_rfl, by kernel_rfl, by kernel_rfl, by kernel_rfl⟩, (by repeat' first | exact trivial | exact rfl | kernel_rfl | exact Dle.of_eq rfl | exact MLe.of_eq rfl | exact Dle.i (by omega) | exact Dle.i (by simp only [Int.toNat_natCast] at *; omega) | exact Dle.nil | exact Dle.rc Dle.nil | exact Option.some_ne_none _ | exact Or.inl rfl | exact Or.inr trivial | omega | (simp only [Int.toNat_natCast] at *; omega) | (intro _ _ _ _; exact Dle.of_eq rfl) | refine And.intro ?_ ?_)⟩⟩, fun k hk => ?_⟩
  obtain ⟨hk, hz⟩ := hk
  match k, hk with
  | 0, _ =>
    repeat' first
      | (refine facW_intro ?_; intro _)
      | refine Or.inl ?_
      | ((conv => whnf); first | (refine condW_dec ?_ ?_ <;> intro _ <;> try (exfalso; omega)) | refine condW_not ?_ | (refine condW_bool ?_ ?_ <;> intro _ <;> try (exfalso; omega)) | (refine nbC_t (fun _ => ?_) ?_) | (refine nbC_f ?_ (fun _ => ?_)))
      | refine And.intro (by first | omega | (simp only [Int.toNat_natCast] at *; omega) | (simp only [Nat.reduceAdd, Int.cast_ofNat_Int, true_and, and_true]; omega)  | kernel_rfl) ?_
      | refine RegW.run ?_
      | fail
    · rename_i h
      exact ⟨1, ⟨by omega, fun i hi => by (obtain rfl : i = 0 := by omega); exact h⟩, ⟨[], ⟨by kernel_rfl, by kernel_rfl, by kernel_rfl, by kernel_rfl, by kernel_rfl, by kernel_rfl, by kernel_rfl⟩, (by repeat' first | exact trivial | exact rfl | kernel_rfl | exact Dle.of_eq rfl | exact MLe.of_eq rfl | exact Dle.i (by omega) | exact Dle.i (by simp only [Int.toNat_natCast] at *; omega) | exact Dle.nil | exact Dle.rc Dle.nil | exact Option.some_ne_none _ | exact Or.inl rfl | exact Or.inr trivial | omega | (simp only [Int.toNat_natCast] at *; omega) | (intro _ _ _ _; exact Dle.of_eq rfl) | refine And.intro ?_ ?_)⟩, by first | omega | (dsimp only; omega)⟩
    · rename_i h
      exact Dle.i (by rw [hr, if_pos (show a ≠ 0 from h)]; rfl)
  | 1, _ =>
    have z0 : a = 0 := hz 0 (by omega)
    repeat' first
      | (refine facW_intro ?_; intro _)
      | refine Or.inl ?_
      | ((conv => whnf); first | (refine condW_dec ?_ ?_ <;> intro _ <;> try (exfalso; omega)) | refine condW_not ?_ | (refine condW_bool ?_ ?_ <;> intro _ <;> try (exfalso; omega)) | (refine nbC_t (fun _ => ?_) ?_) | (refine nbC_f ?_ (fun _ => ?_)))
      | refine And.intro (by first | omega | (simp only [Int.toNat_natCast] at *; omega) | (simp only [Nat.reduceAdd, Int.cast_ofNat_Int, true_and, and_true]; omega)  | kernel_rfl) ?_
      | refine RegW.run ?_
      | fail
    · rename_i h
      exact ⟨2, ⟨by omega, fun i hi => by match i, hi with | 0, _ => exact z0 | 1, _ => exact h⟩, ⟨[], ⟨by kernel_rfl, by kernel_rfl, by kernel_rfl, by kernel_rfl, by kernel_rfl, by kernel_rfl, by kernel_rfl⟩, (by repeat' first | exact trivial | exact rfl | kernel_rfl | exact Dle.of_eq rfl | exact MLe.of_eq rfl | exact Dle.i (by omega) | exact Dle.i (by simp only [Int.toNat_natCast] at *; omega) | exact Dle.nil | exact Dle.rc Dle.nil | exact Option.some_ne_none _ | exact Or.inl rfl | exact Or.inr trivial | omega | (simp only [Int.toNat_natCast] at *; omega) | (intro _ _ _ _; exact Dle.of_eq rfl) | refine And.intro ?_ ?_)⟩, by first | omega | (dsimp only; omega)⟩
    · rename_i h
      exact Dle.i (by rw [hr, if_neg (fun h => h z0), if_pos (show b ≠ 0 from h)]; rfl)
  | 2, _ =>
    have z0 : a = 0 := hz 0 (by omega)
    have z1 : b = 0 := hz 1 (by omega)
    repeat' first
      | (refine facW_intro ?_; intro _)
      | refine Or.inl ?_
      | ((conv => whnf); first | (refine condW_dec ?_ ?_ <;> intro _ <;> try (exfalso; omega)) | refine condW_not ?_ | (refine condW_bool ?_ ?_ <;> intro _ <;> try (exfalso; omega)) | (refine nbC_t (fun _ => ?_) ?_) | (refine nbC_f ?_ (fun _ => ?_)))
      | refine And.intro (by first | omega | (simp only [Int.toNat_natCast] at *; omega) | (simp only [Nat.reduceAdd, Int.cast_ofNat_Int, true_and, and_true]; omega)  | kernel_rfl) ?_
      | refine RegW.run ?_
      | fail
    · rename_i h
      exact ⟨3, ⟨by omega, fun i hi => by match i, hi with | 0, _ => exact z0 | 1, _ => exact z1 | 2, _ => exact h⟩, ⟨[], ⟨by kernel_rfl, by kernel_rfl, by kernel_rfl, by kernel_rfl, by kernel_rfl, by kernel_rfl, by kernel_rfl⟩, (by repeat' first | exact trivial | exact rfl | kernel_rfl | exact Dle.of_eq rfl | exact MLe.of_eq rfl | exact Dle.i (by omega) | exact Dle.i (by simp only [Int.toNat_natCast] at *; omega) | exact Dle.nil | exact Dle.rc Dle.nil | exact Option.some_ne_none _ | exact Or.inl rfl | exact Or.inr trivial | omega | (simp only [Int.toNat_natCast] at *; omega) | (intro _ _ _ _; exact Dle.of_eq rfl) | refine And.intro ?_ ?_)⟩, by first | omega | (dsimp only; omega)⟩
    · rename_i h
      exact Dle.i (by rw [hr, if_neg (fun h => h z0), if_neg (fun h => h z1)]; rfl)
  | 3, _ =>
    have z0 : a = 0 := hz 0 (by omega)
    have z1 : b = 0 := hz 1 (by omega)
    have z2 : c = 0 := hz 2 (by omega)
    repeat' first
      | (refine facW_intro ?_; intro _)
      | refine Or.inl ?_
      | ((conv => whnf); first | (refine condW_dec ?_ ?_ <;> intro _ <;> try (exfalso; omega)) | refine condW_not ?_ | (refine condW_bool ?_ ?_ <;> intro _ <;> try (exfalso; omega)) | (refine nbC_t (fun _ => ?_) ?_) | (refine nbC_f ?_ (fun _ => ?_)))
      | refine And.intro (by first | omega | (simp only [Int.toNat_natCast] at *; omega) | (simp only [Nat.reduceAdd, Int.cast_ofNat_Int, true_and, and_true]; omega)  | kernel_rfl) ?_
      | refine RegW.run ?_
      | fail
    exact Dle.i (by rw [hr, if_neg (fun h => h z0), if_neg (fun h => h z1), z2])
theorem or3_sp (a b c : Int) : Sp (cx Tryz.prog mixed tyT_ok E) 50 [.sl 1 8 3 (fun i j => ([i64 a, i64 b, i64 c] : List DD).getD ((i + 0) * 1 + j) .opq)] (i64 (if a ≠ 0 then a else if b ≠ 0 then b else c)) :=
  (orV_sp E a b c).args ⟨Dle.sl rfl (fun i j hi hj => Dle.of_eq (by
    obtain rfl : j = 0 := by omega
    match i, hi with
    | 0, _ => rfl
    | 1, _ => rfl
    | 2, _ => rfl)), trivial⟩
theorem slCmp_sp (l m : List ByteArray) : Sp (cx Tryz.prog mixed tyT_ok E) 52 [encStrs l, encStrs m] (i64 (cmpK l m 0)) := by
  obtain ⟨r, hr⟩ : ∃ r, r = cmpK l m 0 := ⟨_, rfl⟩
  rw [← hr]
  refine Sp.body Tryz.func52 (by kernel_rfl) rfl (by kernel_rfl) (by kernel_rfl) (by kernel_rfl) ?_
  repeat' first
    | (refine facW_intro ?_; intro _)
    | refine Or.inl ?_
    | ((conv => whnf); first | (refine condW_dec ?_ ?_ <;> intro _) | refine condW_not ?_ | (refine condW_bool ?_ ?_ <;> intro _) | (refine nbC_t (fun _ => ?_) ?_) | (refine nbC_f ?_ (fun _ => ?_)))
    | refine And.intro (by first | omega | (simp only [Int.toNat_natCast] at *; omega) | (simp only [Nat.reduceAdd, Int.cast_ofNat_Int, true_and, and_true]; omega)  | kernel_rfl) ?_
    | refine RegW.run ?_
    | fail
  refine ⟨Nat, fun k => [(11, i64 k)], fun k => [], [], fun k => [], fun k => k ≤ l.length ∧ k ≤ m.length ∧ r = cmpK l m k, fun k => l.length - k, ⟨0, ⟨by omega, by omega, hr⟩, ⟨[], ⟨by kernel_rfl, by kernel_rfl, by kernel_rfl, by kernel_rfl, by kernel_rfl, by kernel_rfl, by kernel_rfl⟩, (by repeat' first | exact trivial | exact rfl | kernel_rfl | exact Dle.of_eq rfl | exact MLe.of_eq rfl | exact Dle.i (by omega) | exact Dle.i (by simp only [Int.toNat_natCast] at *; omega) | exact Dle.nil | exact Dle.rc Dle.nil | exact Option.some_ne_none _ | exact Or.inl rfl | exact Or.inr trivial | omega | (simp only [Int.toNat_natCast] at *; omega) | (intro _ _ _ _; exact Dle.of_eq rfl) | refine And.intro ?_ ?_)⟩⟩, fun k hk => ?_⟩
  obtain ⟨hk, hk2, hK⟩ := hk
  repeat' first
    | (refine facW_intro ?_; intro _)
    | refine Or.inl ?_
    | ((conv => whnf); first | (refine condW_dec ?_ ?_ <;> intro _) | refine condW_not ?_ | (refine condW_bool ?_ ?_ <;> intro _) | (refine nbC_t (fun _ => ?_) ?_) | (refine nbC_f ?_ (fun _ => ?_)))
    | refine And.intro (by first | omega | (simp only [Int.toNat_natCast] at *; omega) | (simp only [Nat.reduceAdd, Int.cast_ofNat_Int, true_and, and_true]; omega)  | kernel_rfl) ?_
    | refine RegW.run ?_
    | refine ⟨_, cmpStr_sp E _ _, ?_⟩
    | fail
  all_goals first
    | exact ⟨k + 1, ⟨by omega, by omega, by rw [hK, cmpK_eq ⟨by omega, by omega⟩ (by simp only [Int.toNat_natCast] at *; first | assumption | (rw [show ((k : Int) - 1).toNat = k - 1 by omega] at *; assumption))]⟩, ⟨[], ⟨by kernel_rfl, by kernel_rfl, by kernel_rfl, by kernel_rfl, by kernel_rfl, by kernel_rfl, by kernel_rfl⟩, (by repeat' first | exact trivial | exact rfl | kernel_rfl | exact Dle.of_eq rfl | exact MLe.of_eq rfl | exact Dle.i (by omega) | exact Dle.i (by simp only [Int.toNat_natCast] at *; omega) | exact Dle.nil | exact Dle.rc Dle.nil | exact Option.some_ne_none _ | exact Or.inl rfl | exact Or.inr trivial | omega | (simp only [Int.toNat_natCast] at *; omega) | (intro _ _ _ _; exact Dle.of_eq rfl) | refine And.intro ?_ ?_)⟩, by first | omega | (dsimp only; omega)⟩
    | exact Dle.i (by rw [hK, cmpK_ne ⟨by omega, by omega⟩ (by simp only [Int.toNat_natCast] at *; first | assumption | (rw [show ((k : Int) - 1).toNat = k - 1 by omega] at *; assumption))]; rfl)
    | exact Dle.i (by rw [hK, cmpK_end (by omega)]; unfold sgn; grind)
    | trace_state
end
end Go.Proofs.YtjbgafbijamckaaGreatDoor
namespace Go.Proofs.YtjbgafbijamckaaGreatDoor
open Go.RowKit
set_option linter.unusedVariables false
set_option linter.unusedSimpArgs false
theorem sgn_bit (a b : Bool) : sgn (bitI a) (bitI b) = if a = b then 0 else if b = true then -1 else 1 := by cases a <;> cases b <;> rfl
section
variable (E : Env)
set_option maxRecDepth 100000
set_option maxHeartbeats 4000000 in
theorem compareOf_sp : ∀ (N : Nat) (v w : Vu), SizeOf.sizeOf v < N → Sp (cx Tryz.prog mixed tyT_ok E) 20 [encV v, encV w] (i64 (cmpV v w))
  | 0, v, w, h => by omega
  | N + 1, v, w, h => by
    have ih := fun x y (hx : x ∈ v.items) => compareOf_sp N x y (by have := items_lt v x hx; omega)
    have hb := sgn_bit v.b w.b
    obtain ⟨r, hr⟩ : ∃ r, r = cmpV v w := ⟨_, rfl⟩
    rw [← hr]
    rw [cmpV_eq] at hr
    unfold cmpH at hr
    have c1 := cmpI_sp E v.kind w.kind
    have c2 := cmpI_sp E v.i w.i
    have c3 := strCmp_sp E v.text w.text
    have c4 := slCmp_sp E v.keys w.keys
    generalize sgn v.kind w.kind = a1 at hr c1
    generalize sgn (bitI v.b) (bitI w.b) = a2 at hr hb
    generalize sgn v.i w.i = a3 at hr c2
    generalize cmpS v.text w.text = a4 at hr c3
    generalize cmpK v.keys w.keys 0 = a5 at hr c4
    refine Sp.body Tryz.func20 (by kernel_rfl) rfl (by kernel_rfl) (by kernel_rfl) (by kernel_rfl) ?_
    repeat' first
      | (refine facW_intro ?_; intro _)
      | refine Or.inl ?_
      | ((conv => whnf); first | (refine condW_dec ?_ ?_ <;> intro _) | refine condW_not ?_ | (refine condW_bool ?_ ?_ <;> intro _) | (refine nbC_t (fun _ => ?_) ?_) | (refine nbC_f ?_ (fun _ => ?_)))
      | refine And.intro (by first | omega | (simp only [Int.toNat_natCast] at *; omega) | (simp only [Nat.reduceAdd, Int.cast_ofNat_Int, true_and, and_true]; omega)  | kernel_rfl) ?_
      | refine RegW.run ?_
      | refine ⟨_, c1, ?_⟩
      | refine ⟨_, c2, ?_⟩
      | refine ⟨_, c3, ?_⟩
      | refine ⟨_, c4, ?_⟩
      | refine ⟨_, or3_sp E _ _ _, ?_⟩
      | fail
    all_goals first
      | exact Dle.i (by rw [hr]; grind)
      | skip
    all_goals
      have hr : r = cmpL v.items w.items := by rw [hr]; grind
      refine ⟨Nat, fun k => [(7, i64 k)], fun k => [], [2, 3], fun k => [], fun k => k ≤ v.items.length ∧ k ≤ w.items.length ∧ r = cmpL (v.items.drop k) (w.items.drop k), fun k => v.items.length - k, ⟨0, ⟨by omega, by omega, hr⟩, ⟨[], ⟨by kernel_rfl, by kernel_rfl, by kernel_rfl, by kernel_rfl, by kernel_rfl, by kernel_rfl, by kernel_rfl⟩, (by repeat' first | exact trivial | exact rfl | kernel_rfl | exact Dle.of_eq rfl | exact MLe.of_eq rfl | exact Dle.i (by omega) | exact Dle.i (by simp only [Int.toNat_natCast] at *; omega) | exact Dle.nil | exact Dle.rc Dle.nil | exact Option.some_ne_none _ | exact Or.inl rfl | exact Or.inr trivial | omega | (simp only [Int.toNat_natCast] at *; omega) | (intro _ _ _ _; exact Dle.of_eq rfl) | refine And.intro ?_ ?_)⟩⟩, fun k hk => ?_⟩
      obtain ⟨hk, hk2, hK⟩ := hk
      by_cases hlt : k < v.items.length ∧ k < w.items.length
      · obtain ⟨hl1, hl2⟩ := hlt
        rw [cmpL_drop hl1 hl2] at hK
        have hc := ih _ (w.items.getD k .zero) (getD_mem v.items .zero k hl1)
        generalize cmpV (v.items.getD k .zero) (w.items.getD k .zero) = e at hK hc
        repeat' first
          | (refine facW_intro ?_; intro _)
          | refine Or.inl ?_
          | ((conv => whnf); first | (refine condW_dec ?_ ?_ <;> intro _ <;> try (exfalso; omega)) | refine condW_not ?_ | (refine condW_bool ?_ ?_ <;> intro _ <;> try (exfalso; omega)) | (refine nbC_t (fun _ => ?_) ?_) | (refine nbC_f ?_ (fun _ => ?_)))
          | refine And.intro (by first | omega | (simp only [Int.toNat_natCast] at *; omega) | (simp only [Nat.reduceAdd, Int.cast_ofNat_Int, true_and, and_true]; omega)  | kernel_rfl) ?_
          | refine RegW.run ?_
          | refine ⟨_, hc, ?_⟩
          | fail
        all_goals first
          | exact ⟨k + 1, ⟨by omega, by omega, by rw [hK]; grind⟩, ⟨[], ⟨by kernel_rfl, by kernel_rfl, by kernel_rfl, by kernel_rfl, by kernel_rfl, by kernel_rfl, by kernel_rfl⟩, (by repeat' first | exact trivial | exact rfl | kernel_rfl | exact Dle.of_eq rfl | exact MLe.of_eq rfl | exact Dle.i (by omega) | exact Dle.i (by simp only [Int.toNat_natCast] at *; omega) | exact Dle.nil | exact Dle.rc Dle.nil | exact Option.some_ne_none _ | exact Or.inl rfl | exact Or.inr trivial | omega | (simp only [Int.toNat_natCast] at *; omega) | (intro _ _ _ _; exact Dle.of_eq rfl) | refine And.intro ?_ ?_)⟩, by first | omega | (dsimp only; omega)⟩
          | exact Dle.i (by rw [hK]; grind)
          | trace_state
      · rw [cmpL_end hk hk2 hlt] at hK
        repeat' first
          | (refine facW_intro ?_; intro _)
          | refine Or.inl ?_
          | ((conv => whnf); first | (refine condW_dec ?_ ?_ <;> intro _ <;> try (exfalso; omega)) | refine condW_not ?_ | (refine condW_bool ?_ ?_ <;> intro _ <;> try (exfalso; omega)) | (refine nbC_t (fun _ => ?_) ?_) | (refine nbC_f ?_ (fun _ => ?_)))
          | refine And.intro (by first | omega | (simp only [Int.toNat_natCast] at *; omega) | (simp only [Nat.reduceAdd, Int.cast_ofNat_Int, true_and, and_true]; omega)  | kernel_rfl) ?_
          | refine RegW.run ?_
          | refine ⟨_, cmpI_sp E _ _, ?_⟩
          | fail
        all_goals exact Dle.i (by rw [hK])
end
end Go.Proofs.YtjbgafbijamckaaGreatDoor
namespace Go.Proofs.YtjbgafbijamckaaGreatDoor
open Go.RowKit
set_option linter.unusedVariables false
set_option linter.unusedSimpArgs false
namespace ap
def zeroP (v : Vu) : Prop := v.kind = 0 ∧ v.b = false ∧ v.i = 0 ∧ v.text = ⟨#[]⟩ ∧ v.items.length = 0 ∧ v.keys.length = 0
instance (v : Vu) : Decidable (zeroP v) := by unfold zeroP; infer_instance
theorem cmpB_nil (l : List UInt8) : Lib.compareBytes l [] = 0 ↔ l = [] := by cases l <;> simp [Lib.compareBytes]
theorem cmpV_zero (v : Vu) : cmpV v .zero = 0 ↔ zeroP v := by
  rw [cmpV_eq]
  unfold cmpH zeroP
  have e1 : sgn v.kind Vu.zero.kind = 0 ↔ v.kind = 0 := by show sgn v.kind 0 = 0 ↔ _; unfold sgn; split <;> (try split) <;> omega
  have e2 : sgn (bitI v.b) (bitI Vu.zero.b) = 0 ↔ v.b = false := by show sgn (bitI v.b) 0 = 0 ↔ _; cases v.b <;> simp [sgn, bitI]
  have e3 : sgn v.i Vu.zero.i = 0 ↔ v.i = 0 := by show sgn v.i 0 = 0 ↔ _; unfold sgn; split <;> (try split) <;> omega
  have e4 : cmpS v.text Vu.zero.text = 0 ↔ v.text = ⟨#[]⟩ := by
    show Lib.compareBytes v.text.data.toList [] = 0 ↔ _
    rw [cmpB_nil]
    cases v.text with | mk d => cases d with | mk l => simp
  have e5 : cmpK v.keys Vu.zero.keys 0 = 0 ↔ v.keys.length = 0 := by
    rw [cmpK_end (fun h => by exact absurd h.2 (Nat.not_lt_zero _))]
    show sgn v.keys.length 0 = 0 ↔ _
    unfold sgn
    split <;> (try split) <;> omega
  have e6 : cmpL v.items Vu.zero.items = 0 ↔ v.items.length = 0 := by
    show cmpL v.items [] = 0 ↔ _
    cases v.items <;> simp [cmpL]
  grind
theorem sgn_self (a : Int) : sgn a a = 0 := by unfold sgn; rw [if_neg (by omega), if_neg (by omega)]
theorem cmpB_self : ∀ l : List UInt8, Lib.compareBytes l l = 0
  | [] => by simp [Lib.compareBytes]
  | x :: r => by
    have := cmpB_self r
    simp [Lib.compareBytes, this]
theorem cmpS_self (s : ByteArray) : cmpS s s = 0 := cmpB_self _
theorem cmpK_self (l : List ByteArray) : ∀ n k, l.length - k < n → cmpK l l k = 0
  | 0, k, h => by omega
  | n + 1, k, h => by
    by_cases hk : k < l.length
    · rw [cmpK_eq ⟨hk, hk⟩ (cmpS_self _)]
      exact cmpK_self l n (k + 1) (by omega)
    · rw [cmpK_end (fun h => hk h.1)]
      exact sgn_self _
theorem cmpH_self (v : Vu) : cmpH v v = 0 := by
  unfold cmpH
  rw [sgn_self, sgn_self, sgn_self, cmpS_self, cmpK_self v.keys _ 0 (Nat.lt_succ_self _)]
  simp
mutual
theorem cmpV_self : ∀ v : Vu, cmpV v v = 0
  | .mk k b i t l ks => by
    have h1 := cmpH_self (.mk k b i t l ks)
    have h2 := cmpL_self l
    simp only [cmpV, Vu.items]
    rw [if_neg (fun h => h h1)]
    exact h2
theorem cmpL_self : ∀ l : List Vu, cmpL l l = 0
  | [] => by simp only [cmpL]
  | x :: r => by
    have h1 := cmpV_self x
    have h2 := cmpL_self r
    simp only [cmpL]
    rw [if_neg (fun h => h h1)]
    exact h2
end
section
variable (E : Env)
set_option maxRecDepth 100000
theorem sameOf_sp (a b : Vu) : Sp (cx Tryz.prog mixed tyT_ok E) 8 [encV a, encV b] (dB (decide (cmpV a b = 0))) := by
  have h1 := compareOf_sp E _ a b (Nat.lt_succ_self _)
  generalize cmpV a b = r at h1
  refine Sp.body Tryz.func8 (by kernel_rfl) rfl (by kernel_rfl) (by kernel_rfl) (by kernel_rfl) ?_
  repeat' first
    | (refine codeW_cond rfl ?_; first | (refine condW_dec ?_ ?_ <;> intro _ <;> try (exfalso; omega)) | refine condW_not ?_ | (refine condW_bool ?_ ?_ <;> intro _ <;> try (exfalso; omega)))
    | (refine facW_intro ?_; intro _)
    | refine Or.inl ?_
    | ((conv => whnf); first | (refine condW_dec ?_ ?_ <;> intro _) | refine condW_not ?_ | (refine condW_bool ?_ ?_ <;> intro _) | (refine nbC_t (fun _ => ?_) ?_) | (refine nbC_f ?_ (fun _ => ?_)))
    | refine And.intro (by first | omega | (simp only [Int.toNat_natCast] at *; omega) | (simp only [Nat.reduceAdd, Int.cast_ofNat_Int, true_and, and_true]; omega)  | (simp only [cx, view, Nat.reduceAdd, Int.toNat_natCast]; omega) | kernel_rfl) ?_
    | refine RegW.run ?_
    | refine ⟨_, h1, ?_⟩
    | fail
  all_goals exact Dle.refl _ _
theorem sameZero_sp (v : Vu) : Sp (cx Tryz.prog mixed tyT_ok E) 8 [encV v, .agg [i64 0, dB false, i64 0, dS ⟨#[]⟩, .v (.slice none 0 0), .v (.slice none 0 0)]] (dB (decide (zeroP v))) := by
  have h0 := sameOf_sp E v .zero
  have he : decide (zeroP v) = decide (cmpV v .zero = 0) := by rw [Bool.eq_iff_iff]; simp [cmpV_zero v]
  rw [he]
  exact h0.args ⟨Dle.refl _ _, Dle.agg ⟨Dle.refl _ _, Dle.refl _ _, Dle.refl _ _, Dle.refl _ _, Dle.rc (X := (cx Tryz.prog mixed tyT_ok E)) Dle.nil, Dle.nil (X := (cx Tryz.prog mixed tyT_ok E)), trivial⟩, trivial⟩
theorem sameSelf_sp (v : Vu) : Sp (cx Tryz.prog mixed tyT_ok E) 8 [encV v, encV v] (dB true) := by
  have h0 := sameOf_sp E v v
  rw [cmpV_self v, decide_eq_true rfl] at h0
  exact h0
end
end ap
end Go.Proofs.YtjbgafbijamckaaGreatDoor
namespace Go.Proofs.YtjbgafbijamckaaGreatDoor
open Go.RowKit
set_option linter.unusedVariables false
set_option linter.unusedSimpArgs false
namespace fi
open cr se
theorem fd_ok : ∀ (l : List Fd) (n : Nat), (l.map Fd.wt).sum ≤ n → n ≤ 2000000 → fdOk l ∧ (l.map fun f => f.dflt.wt).sum ≤ n
  | [], n, _, _ => ⟨fun f h => (by cases h), Nat.zero_le _⟩
  | f :: r, n, h, hn => by
    simp only [List.map_cons, List.sum_cons] at h ⊢
    have h0 : f.wt = f.route.size + 1 + (f.oneOf.map fun s => s.size + 1).sum + f.dflt.wt := rfl
    obtain ⟨h1, h2⟩ := fd_ok r (n - f.wt) (by omega) (by omega)
    refine ⟨fun g hg => ?_, by omega⟩
    rcases List.mem_cons.1 hg with rfl | hg
    · exact ⟨by omega, by omega⟩
    · exact h1 g hg
section
variable (E : Env)
set_option maxRecDepth 100000
theorem schemaFills_sp (hML : ∀ w, E.G w → ML w) (l : List Fd) (b : Bool) (v : Vu) (hl : (l.map Fd.wt).sum ≤ 2000000) (hw : v.wt ≤ 2000000) : Sp (cx Tryz.prog mixed tyT_ok E) 5 [.agg [encFs l, dB b], encV v] (dB true) := by
  obtain ⟨g1, g2⟩ := fd_ok l _ hl (Nat.le_refl _)
  have g3 := fd_len l
  have h1 := cFill_sp E hML l b v g1 (by omega) hw g2
  have h2 := fillOf_sp E hML l b v g1 (by omega) hw g2
  have h3 := ap.sameSelf_sp E (fillR l v).1
  generalize fillR l v = r at h1 h2 h3
  refine Sp.body Tryz.func5 (by kernel_rfl) rfl (by kernel_rfl) (by kernel_rfl) (by kernel_rfl) ?_
  repeat' first
    | (refine codeW_cond rfl ?_; first | (refine condW_dec ?_ ?_ <;> intro _ <;> try (exfalso; omega)) | refine condW_not ?_ | (refine condW_bool ?_ ?_ <;> intro _ <;> try (exfalso; omega)))
    | (refine facW_intro ?_; intro _)
    | refine Or.inl ?_
    | ((conv => whnf); first | (refine condW_dec ?_ ?_ <;> intro _) | refine condW_not ?_ | (refine condW_bool ?_ ?_ <;> intro _) | (refine nbC_t (fun _ => ?_) ?_) | (refine nbC_f ?_ (fun _ => ?_)))
    | refine And.intro (by first | omega | (simp only [Int.toNat_natCast] at *; omega) | (simp only [Nat.reduceAdd, Int.cast_ofNat_Int, true_and, and_true]; omega)  | (simp only [cx, view, Nat.reduceAdd, Int.toNat_natCast]; omega) | kernel_rfl) ?_
    | refine RegW.run ?_
    | refine ⟨_, h1, ?_⟩
    | refine ⟨_, h2, ?_⟩
    | refine ⟨_, h3, ?_⟩
    | fail
  all_goals first
    | (exfalso; rename_i h; exact h rfl)
    | exact Dle.bo (by simp)
    | trace_state
end
end fi
end Go.Proofs.YtjbgafbijamckaaGreatDoor
