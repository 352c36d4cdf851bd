/-
  list.valueFault, CheckItem.
-/
import Derived.Test.YtphmfejengmggaaGreatDoorR0
namespace Go.Proofs.YtphmfejengmggaaGreatDoor
open Go.RowKit
set_option linter.unusedVariables false
set_option linter.unusedSimpArgs false
def skind (k : Int) : Int := if k = 7 ∨ k = 8 then 3 else k
theorem badStr_nil : badStr ⟨#[]⟩ = false := by unfold badStr; rfl
theorem size_nil : (⟨#[]⟩ : ByteArray).size = 0 := rfl
mutual
/-- Safe and Fact taken for String. -/
def setl : Vu → Vu
  | .mk k b i t l ks => .mk (skind k) b i t (setlL l) ks
def setlL : List Vu → List Vu
  | [] => []
  | x :: r => setl x :: setlL r
end
theorem setl_eq (v : Vu) : setl v = .mk (skind v.kind) v.b v.i v.text (setlL v.items) v.keys := by cases v; simp only [setl, Vu.kind, Vu.b, Vu.i, Vu.text, Vu.items, Vu.keys]
theorem setlL_map : ∀ l : List Vu, setlL l = l.map setl
  | [] => rfl
  | x :: r => by rw [setlL, setlL_map r]; rfl
theorem setlL_len (l : List Vu) : (setlL l).length = l.length := by rw [setlL_map, List.length_map]
theorem setl_kind (v : Vu) : (setl v).kind = skind v.kind := by rw [setl_eq]; rfl
/-- What is wrong with a value, of what its head hangs on. -/
def headP (k : Int) (b : Bool) (i : Int) (t : ByteArray) (n : Nat) (ks : List ByteArray) : Int :=
  if k < 0 ∨ 6 < k then 10 else if (b = true ∧ k ≠ 1) ∨ (i ≠ 0 ∧ k ≠ 2 ∧ k ≠ 4) ∨ (t ≠ ⟨#[]⟩ ∧ k ≠ 3) ∨ (0 < n ∧ k ≠ 5 ∧ k ≠ 6) ∨ (0 < ks.length ∧ k ≠ 6) ∨ (k = 6 ∧ ks.length ≠ n) then 1
  else if k = 4 ∧ (i < 0 ∨ 84005 < i) then 2 else if 5000 < t.size then 4 else if badStr t = true then 9 else keysFrom ks 0
theorem headE_P (v : Vu) : headE v = headP v.kind v.b v.i v.text v.items.length v.keys := by
  unfold headE headP unusedP badDayP
  rfl
/-- What list.valueFault answers. -/
def headI (v : Vu) : Int := headE (setl v)
theorem headI_P (v : Vu) : headI v = headP (skind v.kind) v.b v.i v.text v.items.length v.keys := by
  unfold headI
  rw [headE_P, setl_eq]
  simp only [Vu.kind, Vu.b, Vu.i, Vu.text, Vu.items, Vu.keys, setlL_len]
theorem headP_six (b : Bool) (i : Int) (t : ByteArray) (n : Nat) (ks : List ByteArray) : headP 6 b i t n ks = if b = true ∨ i ≠ 0 ∨ t ≠ ⟨#[]⟩ ∨ ks.length ≠ n then 1 else keysFrom ks 0 := by
  unfold headP
  by_cases ht : t = ⟨#[]⟩
  · subst ht
    rw [badStr_nil, size_nil]
    grind
  · grind
/-- A value without items, and one with Nils alone. -/
theorem check_flat (k : Int) (b : Bool) (i : Int) (t : ByteArray) (n : Nat) (ks : List ByteArray) (hn : n ≤ 999) : checkE (.mk k b i t (List.replicate n .zero) ks) = headP k b i t n ks := by
  have hz : cnt .zero = 1 := by simp [Vu.zero, cnt, cntL]
  have hl0 : lvl .zero = 1 := by simp [Vu.zero, lvl, lvlL]
  have hf0 : faultE .zero = 0 := by rw [faultE_eq, headE_P]; simp [Vu.zero, headP, faultL, Vu.kind, Vu.b, Vu.i, Vu.text, Vu.items, Vu.keys, badStr_nil, size_nil, keysFrom_end]
  have h1 : ∀ n, cntL (List.replicate n .zero) = n := by
    intro n
    induction n with
    | zero => rfl
    | succ n ih => rw [List.replicate_succ, cntL, ih, hz]; omega
  have h2 : ∀ n, lvlL (List.replicate n .zero) ≤ 1 := by
    intro n
    induction n with
    | zero => simp [lvlL]
    | succ n ih => rw [List.replicate_succ, lvlL, hl0]; omega
  have h3 : ∀ n, faultL (List.replicate n .zero) = 0 := by
    intro n
    induction n with
    | zero => rfl
    | succ n ih => rw [List.replicate_succ, faultL, hf0, if_pos rfl, ih]
  unfold checkE
  rw [if_neg (by simp only [cnt, h1]; omega), if_neg (by simp only [lvl]; have := h2 n; omega), faultE, h3, headE_P]
  simp only [Vu.kind, Vu.b, Vu.i, Vu.text, Vu.items, Vu.keys, List.length_replicate]
  grind
mutual
/-- What list.valuesFault answers. -/
def itemE : Vu → Int
  | .mk k b i t l ks => if headI (.mk k b i t l ks) = 0 then itemL l else headI (.mk k b i t l ks)
def itemL : List Vu → Int
  | [] => 0
  | x :: r => if itemE x = 0 then itemL r else itemE x
end
theorem itemE_eq (v : Vu) : itemE v = if headI v = 0 then itemL v.items else headI v := by cases v; simp only [itemE, Vu.items]
theorem itemL_drop {l : List Vu} {k : Nat} (h : k < l.length) : itemL (l.drop k) = if itemE (l.getD k .zero) = 0 then itemL (l.drop (k + 1)) else itemE (l.getD k .zero) := by
  rw [drop_cons l .zero k h]; simp only [itemL]
theorem itemL_end {l : List Vu} {k : Nat} (h : l.length ≤ k) : itemL (l.drop k) = 0 := by rw [List.drop_of_length_le h]; rfl
mutual
theorem item_fault : ∀ v : Vu, itemE v = faultE (setl v)
  | .mk k b i t l ks => by
    have h := item_faultL l
    rw [itemE_eq, faultE_eq]
    unfold headI
    rw [setl_eq]
    simp only [Vu.items, Vu.kind, Vu.b, Vu.i, Vu.text, Vu.keys, h]
    rfl
theorem item_faultL : ∀ l : List Vu, itemL l = faultL (setlL l)
  | [] => rfl
  | x :: r => by rw [itemL, setlL, faultL, item_fault x, item_faultL r]
end
/-- What CheckItem answers. -/
def itemCheckE (v : Vu) : Int := if 5000 < cnt v then 4 else if 10 < lvl v then 13 else itemE v
section
variable (E : Env)
set_option maxRecDepth 100000
theorem tableFault_sp (v : Vu) (hk : v.kind = 6) : Sp (cx Tryz.prog mixed tyT_ok E) 352 [encV v] (i64 (headI v)) := by
  have hP := headI_P v
  rw [hk, show skind 6 = 6 from rfl, headP_six] at hP
  refine Sp.body Tryz.func352 (by kernel_rfl) rfl (by kernel_rfl) (by kernel_rfl) (by kernel_rfl) ?_
  repeat' first
    | (refine facW_intro ?_; intro _)
    | refine Or.inl ?_
    | ((conv => whnf); first | (refine condW_dec ?_ ?_ <;> intro _) | refine condW_not ?_ | (refine condW_bool ?_ ?_ <;> intro _) | (refine nbC_t (fun _ => ?_) ?_) | (refine nbC_f ?_ (fun _ => ?_)))
    | refine And.intro (by first | omega | (simp only [Int.toNat_natCast] at *; omega) | (simp only [Nat.reduceAdd, Int.cast_ofNat_Int, true_and, and_true]; omega) | kernel_rfl) ?_
    | refine RegW.run ?_
    | fail
  all_goals first
    | exact Dle.i (by rw [hP]; grind)
    | skip
  all_goals
    have hR : headI v = keysFrom v.keys 0 := by
      rw [hP]
      grind
    refine ⟨Nat, fun k => [(29, i64 k)], fun k => [], [1], fun k => [], fun k => k ≤ v.keys.length ∧ headI v = keysFrom v.keys k, fun k => v.keys.length - k, ⟨0, ⟨by omega, hR⟩, ⟨[], ⟨by kernel_rfl, by kernel_rfl, by kernel_rfl, by kernel_rfl, by kernel_rfl, by kernel_rfl, by kernel_rfl⟩, (by repeat' first | exact trivial | exact rfl | kernel_rfl | exact Dle.of_eq rfl | exact MLe.of_eq rfl | exact Dle.i (by omega) | exact Dle.i (by simp only [Int.toNat_natCast] at *; omega) | exact Dle.nil | exact Dle.rc Dle.nil | exact Option.some_ne_none _ | exact Or.inl rfl | exact Or.inr trivial | omega | (simp only [Int.toNat_natCast] at *; omega) | (intro _ _ _ _; exact Dle.of_eq rfl) | refine And.intro ?_ ?_)⟩⟩, fun k hk => ?_⟩
    obtain ⟨hk, hK⟩ := hk
  repeat' first
    | (refine facW_intro ?_; intro _)
    | refine Or.inl ?_
    | ((conv => whnf); first | (refine condW_dec ?_ ?_ <;> intro _) | refine condW_not ?_ | (refine condW_bool ?_ ?_ <;> intro _) | (refine nbC_t (fun _ => ?_) ?_) | (refine nbC_f ?_ (fun _ => ?_)))
    | refine And.intro (by first | omega | (simp only [Int.toNat_natCast] at *; omega) | (simp only [Nat.reduceAdd, Int.cast_ofNat_Int, true_and, and_true]; omega) | kernel_rfl) ?_
    | refine RegW.run ?_
    | refine ⟨_, l_isKey_sp E _, ?_⟩
    | fail
  all_goals first
    | exact Dle.i (by rw [hK, keysFrom_end (by omega)])
    | exact Dle.i (by rw [hK, keysFrom_name (by omega) (by simp only [Int.toNat_natCast] at *; first | assumption | (rw [show ((k : Int) - 1).toNat = k - 1 by omega] at *; assumption))])
    | exact Dle.i (by rw [hK, keysFrom_order (by omega) (by simp only [Int.toNat_natCast] at *; first | assumption | (rw [show ((k : Int) - 1).toNat = k - 1 by omega] at *; assumption)) (by omega) (by simp only [Int.toNat_natCast] at *; first | assumption | (rw [show ((k : Int) - 1).toNat = k - 1 by omega] at *; assumption))])
    | exact ⟨k + 1, ⟨by omega, by rw [hK, keysFrom_next0 (by omega) (by simp only [Int.toNat_natCast] at *; first | assumption | (rw [show ((k : Int) - 1).toNat = k - 1 by omega] at *; assumption)) (by omega)]⟩, ⟨[], ⟨by kernel_rfl, by kernel_rfl, by kernel_rfl, by kernel_rfl, by kernel_rfl, by kernel_rfl, by kernel_rfl⟩, (by repeat' first | exact trivial | exact rfl | kernel_rfl | exact Dle.of_eq rfl | exact MLe.of_eq rfl | exact Dle.i (by omega) | exact Dle.i (by simp only [Int.toNat_natCast] at *; omega) | exact Dle.nil | exact Dle.rc Dle.nil | exact Option.some_ne_none _ | exact Or.inl rfl | exact Or.inr trivial | omega | (simp only [Int.toNat_natCast] at *; omega) | (intro _ _ _ _; exact Dle.of_eq rfl) | refine And.intro ?_ ?_)⟩, by first | omega | (dsimp only; omega)⟩
    | exact ⟨k + 1, ⟨by omega, by rw [hK, keysFrom_next (by omega) (by simp only [Int.toNat_natCast] at *; first | assumption | (rw [show ((k : Int) - 1).toNat = k - 1 by omega] at *; assumption)) (by simp only [Int.toNat_natCast] at *; first | assumption | (rw [show ((k : Int) - 1).toNat = k - 1 by omega] at *; assumption))]⟩, ⟨[], ⟨by kernel_rfl, by kernel_rfl, by kernel_rfl, by kernel_rfl, by kernel_rfl, by kernel_rfl, by kernel_rfl⟩, (by repeat' first | exact trivial | exact rfl | kernel_rfl | exact Dle.of_eq rfl | exact MLe.of_eq rfl | exact Dle.i (by omega) | exact Dle.i (by simp only [Int.toNat_natCast] at *; omega) | exact Dle.nil | exact Dle.rc Dle.nil | exact Option.some_ne_none _ | exact Or.inl rfl | exact Or.inr trivial | omega | (simp only [Int.toNat_natCast] at *; omega) | (intro _ _ _ _; exact Dle.of_eq rfl) | refine And.intro ?_ ?_)⟩, by first | omega | (dsimp only; omega)⟩
    | trace_state
end
end Go.Proofs.YtphmfejengmggaaGreatDoor
