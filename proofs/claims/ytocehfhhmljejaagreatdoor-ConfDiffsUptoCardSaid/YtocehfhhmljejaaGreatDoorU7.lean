/-
  The order of values: conf.Compare and the reference's CompareOf.
-/
import Derived.Test.YtocehfhhmljejaaGreatDoorShelf
import Derived.Test.YtocehfhhmljejaaGreatDoorQ8
namespace Go.Proofs.YtocehfhhmljejaaGreatDoor
open Go.RowKit
set_option linter.unusedVariables false
set_option linter.unusedSimpArgs false
def sgn (a b : Int) : Int := if a < b then -1 else if b < a then 1 else 0
def bitI (b : Bool) : Int := if b = true then 1 else 0
def cmpS (a b : ByteArray) : Int := Lib.compareBytes a.data.toList b.data.toList
theorem cmpS_less : ∀ a b : List UInt8, Lib.compareBytes a b = if Op.bytesLess a b then -1 else if (!(Op.bytesLess a b || a == b)) then 1 else 0
  | [], [] => rfl
  | [], _ :: _ => rfl
  | _ :: _, [] => rfl
  | x :: a, y :: b => by
    rw [Lib.compareBytes, cmpS_less a b, Op.bytesLess]
    by_cases h : x < y
    · simp [h]
    · by_cases h2 : y < x
      · have : x ≠ y := fun e => by subst e; exact h h2
        simp [h, h2, this]
      · have : x = y := UInt8.le_antisymm (UInt8.not_lt.1 h2) (UInt8.not_lt.1 h)
        subst this
        simp [h]
theorem cmpS_lt (a b : ByteArray) : cmpS a b = if strLt a b = true then -1 else if (strLt a b || decide (a = b)) = false then 1 else 0 := by
  unfold cmpS strLt
  rw [cmpS_less]
  have e1 : ∀ s : ByteArray, s.toList = s.data.toList := fun s => ByteArray.toList_eq ..
  have e2 : decide (a = b) = (a.data.toList == b.data.toList) := by
    rw [Bool.eq_iff_iff]
    simp only [decide_eq_true_eq, beq_iff_eq]
    constructor
    · intro h; rw [h]
    · intro h
      cases a with | mk a => cases b with | mk b => exact congrArg _ (Array.toList_inj.1 h)
  rw [e1, e1, e2]
  split
  · rfl
  · split <;> simp_all
def cmpK (a b : List ByteArray) (k : Nat) : Int := if k < a.length ∧ k < b.length then (if cmpS (a.getD k ⟨#[]⟩) (b.getD k ⟨#[]⟩) = 0 then cmpK a b (k + 1) else cmpS (a.getD k ⟨#[]⟩) (b.getD k ⟨#[]⟩)) else sgn a.length b.length
  termination_by a.length - k
theorem cmpK_end {a b : List ByteArray} {k : Nat} (h : ¬ (k < a.length ∧ k < b.length)) : cmpK a b k = sgn a.length b.length := by rw [cmpK, if_neg h]
theorem cmpK_eq {a b : List ByteArray} {k : Nat} (h : k < a.length ∧ k < b.length) (h2 : cmpS (a.getD k ⟨#[]⟩) (b.getD k ⟨#[]⟩) = 0) : cmpK a b k = cmpK a b (k + 1) := by rw [cmpK, if_pos h, if_pos h2]
theorem cmpK_ne {a b : List ByteArray} {k : Nat} (h : k < a.length ∧ k < b.length) (h2 : ¬ cmpS (a.getD k ⟨#[]⟩) (b.getD k ⟨#[]⟩) = 0) : cmpK a b k = cmpS (a.getD k ⟨#[]⟩) (b.getD k ⟨#[]⟩) := by rw [cmpK, if_pos h, if_neg h2]
def cmpH (a b : Vu) : Int :=
  if sgn a.kind b.kind ≠ 0 then sgn a.kind b.kind else if sgn (bitI a.b) (bitI b.b) ≠ 0 then sgn (bitI a.b) (bitI b.b) else if sgn a.i b.i ≠ 0 then sgn a.i b.i else if cmpS a.text b.text ≠ 0 then cmpS a.text b.text else cmpK a.keys b.keys 0
mutual
def cmpV : Vu → Vu → Int
  | .mk k b i t l ks, w => if cmpH (.mk k b i t l ks) w ≠ 0 then cmpH (.mk k b i t l ks) w else cmpL l w.items
def cmpL : List Vu → List Vu → Int
  | [], [] => 0
  | [], _ :: _ => -1
  | _ :: _, [] => 1
  | x :: r, y :: s => if cmpV x y ≠ 0 then cmpV x y else cmpL r s
end
theorem cmpV_eq (a b : Vu) : cmpV a b = if cmpH a b ≠ 0 then cmpH a b else cmpL a.items b.items := by cases a; simp only [cmpV, Vu.items]
theorem cmpL_drop {a b : List Vu} {k : Nat} (h1 : k < a.length) (h2 : k < b.length) : cmpL (a.drop k) (b.drop k) = if cmpV (a.getD k .zero) (b.getD k .zero) ≠ 0 then cmpV (a.getD k .zero) (b.getD k .zero) else cmpL (a.drop (k + 1)) (b.drop (k + 1)) := by
  rw [drop_cons a .zero k h1, drop_cons b .zero k h2]; simp only [cmpL]
theorem cmpL_end {a b : List Vu} {k : Nat} (hk : k ≤ a.length) (hk2 : k ≤ b.length) (h : ¬ (k < a.length ∧ k < b.length)) : cmpL (a.drop k) (b.drop k) = sgn a.length b.length := by
  rcases Nat.lt_or_ge k a.length with h1 | h1
  · have h2 : k = b.length := by omega
    rw [drop_cons a .zero k h1, List.drop_of_length_le (by omega : b.length ≤ k)]
    simp only [cmpL, sgn]
    rw [if_neg (by omega), if_pos (by omega)]
  · rw [List.drop_of_length_le h1]
    rcases Nat.lt_or_ge k b.length with h3 | h3
    · rw [drop_cons b .zero k h3]
      simp only [cmpL, sgn]
      rw [if_pos (by omega)]
    · rw [List.drop_of_length_le h3]
      simp only [cmpL, sgn]
      rw [if_neg (by omega), if_neg (by omega)]
section
variable (E : Env)
set_option maxRecDepth 100000
theorem sign_sp (a b : Int) : Sp (cx Tryz.prog mixed tyT_ok E) 69 [i64 a, i64 b] (i64 (sgn a b)) := by
  refine Sp.body Tryz.func69 (by kernel_rfl) rfl (by kernel_rfl) (by kernel_rfl) (by kernel_rfl) ?_
  repeat' first
    | (refine facW_intro ?_; intro _)
    | refine Or.inl ?_
    | ((conv => whnf); first | (refine condW_dec ?_ ?_ <;> intro _) | refine condW_not ?_ | (refine condW_bool ?_ ?_ <;> intro _) | (refine nbC_t (fun _ => ?_) ?_) | (refine nbC_f ?_ (fun _ => ?_)))
    | refine And.intro (by first | omega | (simp only [Int.toNat_natCast] at *; omega) | (simp only [Nat.reduceAdd, Int.cast_ofNat_Int, true_and, and_true]; omega)  | kernel_rfl) ?_
    | refine RegW.run ?_
    | fail
  all_goals exact Dle.i (by unfold sgn; grind)
theorem bit_sp (b : Bool) : Sp (cx Tryz.prog mixed tyT_ok E) 70 [dB b] (i64 (bitI b)) := by
  refine Sp.body Tryz.func70 (by kernel_rfl) rfl (by kernel_rfl) (by kernel_rfl) (by kernel_rfl) ?_
  repeat' first
    | (refine facW_intro ?_; intro _)
    | refine Or.inl ?_
    | ((conv => whnf); first | (refine condW_dec ?_ ?_ <;> intro _) | refine condW_not ?_ | (refine condW_bool ?_ ?_ <;> intro _) | (refine nbC_t (fun _ => ?_) ?_) | (refine nbC_f ?_ (fun _ => ?_)))
    | refine And.intro (by first | omega | (simp only [Int.toNat_natCast] at *; omega) | (simp only [Nat.reduceAdd, Int.cast_ofNat_Int, true_and, and_true]; omega)  | kernel_rfl) ?_
    | refine RegW.run ?_
    | fail
  all_goals exact Dle.i (by unfold bitI; grind)
theorem strCmp_sp (a b : ByteArray) : Sp (cx Tryz.prog mixed tyT_ok E) 71 [dS a, dS b] (i64 (cmpS a b)) :=
  Sp.of_v (vs := [.string a, .string b]) ⟨_, _, Tryz.func71, by kernel_rfl, rfl⟩ rfl (fun w _ => (Tryz.strings_Compare a b w).mono fun e w' ⟨he, hb⟩ => ⟨he, hb ▸ Below.refl _ _⟩)
theorem isNaNi_sp (a : Int) : Sp (cx Tryz.prog mixed tyT_ok E) 107 [i64 a] (dB false) := by
  refine Sp.body Tryz.func107 (by kernel_rfl) rfl (by kernel_rfl) (by kernel_rfl) (by kernel_rfl) ?_
  repeat' first
    | (refine facW_intro ?_; intro _)
    | refine Or.inl ?_
    | ((conv => whnf); first | (refine condW_dec ?_ ?_ <;> intro _) | refine condW_not ?_ | (refine condW_bool ?_ ?_ <;> intro _) | (refine nbC_t (fun _ => ?_) ?_) | (refine nbC_f ?_ (fun _ => ?_)))
    | refine And.intro (by first | omega | (simp only [Int.toNat_natCast] at *; omega) | (simp only [Nat.reduceAdd, Int.cast_ofNat_Int, true_and, and_true]; omega)  | kernel_rfl) ?_
    | refine RegW.run ?_
    | fail
  exact Dle.bo (by simp)
theorem isNaNs_sp (a : ByteArray) : Sp (cx Tryz.prog mixed tyT_ok E) 124 [dS a] (dB false) := by
  refine Sp.body Tryz.func124 (by kernel_rfl) rfl (by kernel_rfl) (by kernel_rfl) (by kernel_rfl) ?_
  repeat' first
    | (refine facW_intro ?_; intro _)
    | refine Or.inl ?_
    | ((conv => whnf); first | (refine condW_dec ?_ ?_ <;> intro _) | refine condW_not ?_ | (refine condW_bool ?_ ?_ <;> intro _) | (refine nbC_t (fun _ => ?_) ?_) | (refine nbC_f ?_ (fun _ => ?_)))
    | refine And.intro (by first | omega | (simp only [Int.toNat_natCast] at *; omega) | (simp only [Nat.reduceAdd, Int.cast_ofNat_Int, true_and, and_true]; omega)  | kernel_rfl) ?_
    | refine RegW.run ?_
    | fail
  exact Dle.bo (by simp)
theorem cmpI_sp (a b : Int) : Sp (cx Tryz.prog mixed tyT_ok E) 91 [i64 a, i64 b] (i64 (sgn a b)) := by
  refine Sp.body Tryz.func91 (by kernel_rfl) rfl (by kernel_rfl) (by kernel_rfl) (by kernel_rfl) ?_
  repeat' first
    | (refine facW_intro ?_; intro _)
    | refine Or.inl ?_
    | ((conv => whnf); first | (refine condW_dec ?_ ?_ <;> intro _) | refine condW_not ?_ | (refine condW_bool ?_ ?_ <;> intro _) | (refine nbC_t (fun _ => ?_) ?_) | (refine nbC_f ?_ (fun _ => ?_)))
    | refine And.intro (by first | omega | (simp only [Int.toNat_natCast] at *; omega) | (simp only [Nat.reduceAdd, Int.cast_ofNat_Int, true_and, and_true]; omega)  | kernel_rfl) ?_
    | refine RegW.run ?_
    | refine ⟨_, isNaNi_sp E _, ?_⟩
    | fail
  all_goals exact Dle.i (by unfold sgn; grind)
theorem cmpStr_sp (a b : ByteArray) : Sp (cx Tryz.prog mixed tyT_ok E) 108 [dS a, dS b] (i64 (cmpS a b)) := by
  have h := cmpS_lt a b
  refine Sp.body Tryz.func108 (by kernel_rfl) rfl (by kernel_rfl) (by kernel_rfl) (by kernel_rfl) ?_
  repeat' first
    | (refine facW_intro ?_; intro _)
    | refine Or.inl ?_
    | ((conv => whnf); first | (refine condW_dec ?_ ?_ <;> intro _) | refine condW_not ?_ | (refine condW_bool ?_ ?_ <;> intro _) | (refine nbC_t (fun _ => ?_) ?_) | (refine nbC_f ?_ (fun _ => ?_)))
    | refine And.intro (by first | omega | (simp only [Int.toNat_natCast] at *; omega) | (simp only [Nat.reduceAdd, Int.cast_ofNat_Int, true_and, and_true]; omega)  | kernel_rfl) ?_
    | refine RegW.run ?_
    | refine ⟨_, isNaNs_sp E _, ?_⟩
    | fail
  all_goals first
    | exact Dle.i (by rw [h]; grind)
    | exact Dle.i (by rw [h]; simp_all)
    | trace_state
theorem orV_sp (a b c : Int) : Sp (cx Tryz.prog mixed tyT_ok E) 92 [.sl 1 8 3 (fun i _ => i64 (([a, b, c] : List Int).getD i 0))] (i64 (if a ≠ 0 then a else if b ≠ 0 then b else c)) := by
  obtain ⟨r, hr⟩ : ∃ r, r = if a ≠ 0 then a else if b ≠ 0 then b else c := ⟨_, rfl⟩
  rw [← hr]
  refine Sp.body Tryz.func92 (by kernel_rfl) rfl (by kernel_rfl) (by kernel_rfl) (by kernel_rfl) ?_
  repeat' first
    | (refine facW_intro ?_; intro _)
    | refine Or.inl ?_
    | ((conv => whnf); first | (refine condW_dec ?_ ?_ <;> intro _) | refine condW_not ?_ | (refine condW_bool ?_ ?_ <;> intro _) | (refine nbC_t (fun _ => ?_) ?_) | (refine nbC_f ?_ (fun _ => ?_)))
    | refine And.intro (by first | omega | (simp only [Int.toNat_natCast] at *; omega) | (simp only [Nat.reduceAdd, Int.cast_ofNat_Int, true_and, and_true]; omega)  | kernel_rfl) ?_
    | refine RegW.run ?_
    | fail
  refine ⟨Nat, fun k => [(8, i64 k)], fun k => [], [], fun k => [], fun k => k ≤ 3 ∧ (∀ i, i < k → ([a, b, c] : List Int).getD i 0 = 0), fun k => 3 - k, ⟨0, ⟨by omega, fun i hi => by omega⟩, ⟨[], ⟨by kernel_rfl, by kernel_rfl, by kernel_rfl, by kernel_rfl, by kernel_rfl, by kernel_rfl, by kernel_rfl⟩, (by repeat' first | exact trivial | exact rfl | kernel_rfl | exact Dle.of_eq rfl | exact MLe.of_eq rfl | exact Dle.i (by omega) | exact Dle.i (by simp only [Int.toNat_natCast] at *; omega) | exact Dle.nil | exact Dle.rc Dle.nil | exact Option.some_ne_none _ | exact Or.inl rfl | exact Or.inr trivial | omega | (simp only [Int.toNat_natCast] at *; omega) | (intro _ _ _ _; exact Dle.of_eq rfl) | refine And.intro ?_ ?_)⟩⟩, fun k hk => ?_⟩
  obtain ⟨hk, hz⟩ := hk
  match k, hk with
  | 0, _ =>
    repeat' first
      | (refine facW_intro ?_; intro _)
      | refine Or.inl ?_
      | ((conv => whnf); first | (refine condW_dec ?_ ?_ <;> intro _ <;> try (exfalso; omega)) | refine condW_not ?_ | (refine condW_bool ?_ ?_ <;> intro _ <;> try (exfalso; omega)) | (refine nbC_t (fun _ => ?_) ?_) | (refine nbC_f ?_ (fun _ => ?_)))
      | refine And.intro (by first | omega | (simp only [Int.toNat_natCast] at *; omega) | (simp only [Nat.reduceAdd, Int.cast_ofNat_Int, true_and, and_true]; omega)  | kernel_rfl) ?_
      | refine RegW.run ?_
      | fail
    · rename_i h
      exact ⟨1, ⟨by omega, fun i hi => by (obtain rfl : i = 0 := by omega); exact h⟩, ⟨[], ⟨by kernel_rfl, by kernel_rfl, by kernel_rfl, by kernel_rfl, by kernel_rfl, by kernel_rfl, by kernel_rfl⟩, (by repeat' first | exact trivial | exact rfl | kernel_rfl | exact Dle.of_eq rfl | exact MLe.of_eq rfl | exact Dle.i (by omega) | exact Dle.i (by simp only [Int.toNat_natCast] at *; omega) | exact Dle.nil | exact Dle.rc Dle.nil | exact Option.some_ne_none _ | exact Or.inl rfl | exact Or.inr trivial | omega | (simp only [Int.toNat_natCast] at *; omega) | (intro _ _ _ _; exact Dle.of_eq rfl) | refine And.intro ?_ ?_)⟩, by first | omega | (dsimp only; omega)⟩
    · rename_i h
      exact Dle.i (by rw [hr, if_pos (show a ≠ 0 from h)]; rfl)
  | 1, _ =>
    have z0 : a = 0 := hz 0 (by omega)
    repeat' first
      | (refine facW_intro ?_; intro _)
      | refine Or.inl ?_
      | ((conv => whnf); first | (refine condW_dec ?_ ?_ <;> intro _ <;> try (exfalso; omega)) | refine condW_not ?_ | (refine condW_bool ?_ ?_ <;> intro _ <;> try (exfalso; omega)) | (refine nbC_t (fun _ => ?_) ?_) | (refine nbC_f ?_ (fun _ => ?_)))
      | refine And.intro (by first | omega | (simp only [Int.toNat_natCast] at *; omega) | (simp only [Nat.reduceAdd, Int.cast_ofNat_Int, true_and, and_true]; omega)  | kernel_rfl) ?_
      | refine RegW.run ?_
      | fail
    · rename_i h
      exact ⟨2, ⟨by omega, fun i hi => by match i, hi with | 0, _ => exact z0 | 1, _ => exact h⟩, ⟨[], ⟨by kernel_rfl, by kernel_rfl, by kernel_rfl, by kernel_rfl, by kernel_rfl, by kernel_rfl, by kernel_rfl⟩, (by repeat' first | exact trivial | exact rfl | kernel_rfl | exact Dle.of_eq rfl | exact MLe.of_eq rfl | exact Dle.i (by omega) | exact Dle.i (by simp only [Int.toNat_natCast] at *; omega) | exact Dle.nil | exact Dle.rc Dle.nil | exact Option.some_ne_none _ | exact Or.inl rfl | exact Or.inr trivial | omega | (simp only [Int.toNat_natCast] at *; omega) | (intro _ _ _ _; exact Dle.of_eq rfl) | refine And.intro ?_ ?_)⟩, by first | omega | (dsimp only; omega)⟩
    · rename_i h
      exact Dle.i (by rw [hr, if_neg (fun h => h z0), if_pos (show b ≠ 0 from h)]; rfl)
  | 2, _ =>
    have z0 : a = 0 := hz 0 (by omega)
    have z1 : b = 0 := hz 1 (by omega)
    repeat' first
      | (refine facW_intro ?_; intro _)
      | refine Or.inl ?_
      | ((conv => whnf); first | (refine condW_dec ?_ ?_ <;> intro _ <;> try (exfalso; omega)) | refine condW_not ?_ | (refine condW_bool ?_ ?_ <;> intro _ <;> try (exfalso; omega)) | (refine nbC_t (fun _ => ?_) ?_) | (refine nbC_f ?_ (fun _ => ?_)))
      | refine And.intro (by first | omega | (simp only [Int.toNat_natCast] at *; omega) | (simp only [Nat.reduceAdd, Int.cast_ofNat_Int, true_and, and_true]; omega)  | kernel_rfl) ?_
      | refine RegW.run ?_
      | fail
    · rename_i h
      exact ⟨3, ⟨by omega, fun i hi => by match i, hi with | 0, _ => exact z0 | 1, _ => exact z1 | 2, _ => exact h⟩, ⟨[], ⟨by kernel_rfl, by kernel_rfl, by kernel_rfl, by kernel_rfl, by kernel_rfl, by kernel_rfl, by kernel_rfl⟩, (by repeat' first | exact trivial | exact rfl | kernel_rfl | exact Dle.of_eq rfl | exact MLe.of_eq rfl | exact Dle.i (by omega) | exact Dle.i (by simp only [Int.toNat_natCast] at *; omega) | exact Dle.nil | exact Dle.rc Dle.nil | exact Option.some_ne_none _ | exact Or.inl rfl | exact Or.inr trivial | omega | (simp only [Int.toNat_natCast] at *; omega) | (intro _ _ _ _; exact Dle.of_eq rfl) | refine And.intro ?_ ?_)⟩, by first | omega | (dsimp only; omega)⟩
    · rename_i h
      exact Dle.i (by rw [hr, if_neg (fun h => h z0), if_neg (fun h => h z1)]; rfl)
  | 3, _ =>
    have z0 : a = 0 := hz 0 (by omega)
    have z1 : b = 0 := hz 1 (by omega)
    have z2 : c = 0 := hz 2 (by omega)
    repeat' first
      | (refine facW_intro ?_; intro _)
      | refine Or.inl ?_
      | ((conv => whnf); first | (refine condW_dec ?_ ?_ <;> intro _ <;> try (exfalso; omega)) | refine condW_not ?_ | (refine condW_bool ?_ ?_ <;> intro _ <;> try (exfalso; omega)) | (refine nbC_t (fun _ => ?_) ?_) | (refine nbC_f ?_ (fun _ => ?_)))
      | refine And.intro (by first | omega | (simp only [Int.toNat_natCast] at *; omega) | (simp only [Nat.reduceAdd, Int.cast_ofNat_Int, true_and, and_true]; omega)  | kernel_rfl) ?_
      | refine RegW.run ?_
      | fail
    exact Dle.i (by rw [hr, if_neg (fun h => h z0), if_neg (fun h => h z1), z2])
theorem or3_sp (a b c : Int) : Sp (cx Tryz.prog mixed tyT_ok E) 92 [.sl 1 8 3 (fun i j => ([i64 a, i64 b, i64 c] : List DD).getD ((i + 0) * 1 + j) .opq)] (i64 (if a ≠ 0 then a else if b ≠ 0 then b else c)) :=
  (orV_sp E a b c).args ⟨Dle.sl rfl (fun i j hi hj => Dle.of_eq (by
    obtain rfl : j = 0 := by omega
    match i, hi with
    | 0, _ => rfl
    | 1, _ => rfl
    | 2, _ => rfl)), trivial⟩
theorem slCmp_sp (l m : List ByteArray) : Sp (cx Tryz.prog mixed tyT_ok E) 93 [encStrs l, encStrs m] (i64 (cmpK l m 0)) := by
  obtain ⟨r, hr⟩ : ∃ r, r = cmpK l m 0 := ⟨_, rfl⟩
  rw [← hr]
  refine Sp.body Tryz.func93 (by kernel_rfl) rfl (by kernel_rfl) (by kernel_rfl) (by kernel_rfl) ?_
  repeat' first
    | (refine facW_intro ?_; intro _)
    | refine Or.inl ?_
    | ((conv => whnf); first | (refine condW_dec ?_ ?_ <;> intro _) | refine condW_not ?_ | (refine condW_bool ?_ ?_ <;> intro _) | (refine nbC_t (fun _ => ?_) ?_) | (refine nbC_f ?_ (fun _ => ?_)))
    | refine And.intro (by first | omega | (simp only [Int.toNat_natCast] at *; omega) | (simp only [Nat.reduceAdd, Int.cast_ofNat_Int, true_and, and_true]; omega)  | kernel_rfl) ?_
    | refine RegW.run ?_
    | fail
  refine ⟨Nat, fun k => [(11, i64 k)], fun k => [], [], fun k => [], fun k => k ≤ l.length ∧ k ≤ m.length ∧ r = cmpK l m k, fun k => l.length - k, ⟨0, ⟨by omega, by omega, hr⟩, ⟨[], ⟨by kernel_rfl, by kernel_rfl, by kernel_rfl, by kernel_rfl, by kernel_rfl, by kernel_rfl, by kernel_rfl⟩, (by repeat' first | exact trivial | exact rfl | kernel_rfl | exact Dle.of_eq rfl | exact MLe.of_eq rfl | exact Dle.i (by omega) | exact Dle.i (by simp only [Int.toNat_natCast] at *; omega) | exact Dle.nil | exact Dle.rc Dle.nil | exact Option.some_ne_none _ | exact Or.inl rfl | exact Or.inr trivial | omega | (simp only [Int.toNat_natCast] at *; omega) | (intro _ _ _ _; exact Dle.of_eq rfl) | refine And.intro ?_ ?_)⟩⟩, fun k hk => ?_⟩
  obtain ⟨hk, hk2, hK⟩ := hk
  repeat' first
    | (refine facW_intro ?_; intro _)
    | refine Or.inl ?_
    | ((conv => whnf); first | (refine condW_dec ?_ ?_ <;> intro _) | refine condW_not ?_ | (refine condW_bool ?_ ?_ <;> intro _) | (refine nbC_t (fun _ => ?_) ?_) | (refine nbC_f ?_ (fun _ => ?_)))
    | refine And.intro (by first | omega | (simp only [Int.toNat_natCast] at *; omega) | (simp only [Nat.reduceAdd, Int.cast_ofNat_Int, true_and, and_true]; omega)  | kernel_rfl) ?_
    | refine RegW.run ?_
    | refine ⟨_, cmpStr_sp E _ _, ?_⟩
    | fail
  all_goals first
    | exact ⟨k + 1, ⟨by omega, by omega, by rw [hK, cmpK_eq ⟨by omega, by omega⟩ (by simp only [Int.toNat_natCast] at *; first | assumption | (rw [show ((k : Int) - 1).toNat = k - 1 by omega] at *; assumption))]⟩, ⟨[], ⟨by kernel_rfl, by kernel_rfl, by kernel_rfl, by kernel_rfl, by kernel_rfl, by kernel_rfl, by kernel_rfl⟩, (by repeat' first | exact trivial | exact rfl | kernel_rfl | exact Dle.of_eq rfl | exact MLe.of_eq rfl | exact Dle.i (by omega) | exact Dle.i (by simp only [Int.toNat_natCast] at *; omega) | exact Dle.nil | exact Dle.rc Dle.nil | exact Option.some_ne_none _ | exact Or.inl rfl | exact Or.inr trivial | omega | (simp only [Int.toNat_natCast] at *; omega) | (intro _ _ _ _; exact Dle.of_eq rfl) | refine And.intro ?_ ?_)⟩, by first | omega | (dsimp only; omega)⟩
    | exact Dle.i (by rw [hK, cmpK_ne ⟨by omega, by omega⟩ (by simp only [Int.toNat_natCast] at *; first | assumption | (rw [show ((k : Int) - 1).toNat = k - 1 by omega] at *; assumption))]; rfl)
    | exact Dle.i (by rw [hK, cmpK_end (by omega)]; unfold sgn; grind)
    | trace_state
end
end Go.Proofs.YtocehfhhmljejaaGreatDoor
