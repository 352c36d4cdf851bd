/-
  conf.valueFault and its reference parts: what is wrong with a value; counts. conf.count, levels, valuesFault, Check.
-/
import Derived.Test.YtocehfhhmljejaaGreatDoorQ3
namespace Go.Proofs.YtocehfhhmljejaaGreatDoor
open Go.RowKit
set_option linter.unusedVariables false
set_option linter.unusedSimpArgs false

def keysFrom (l : List ByteArray) (k : Nat) : Int :=
  if k < l.length then
    (if keyOkB (l.getD k ⟨#[]⟩) = true then
      (if 0 < k ∧ (strLt (l.getD k ⟨#[]⟩) (l.getD (k - 1) ⟨#[]⟩) || decide (l.getD k ⟨#[]⟩ = l.getD (k - 1) ⟨#[]⟩)) = true then 5 else keysFrom l (k + 1)) else 12) else 0
  termination_by l.length - k
theorem keysFrom_end {l : List ByteArray} {k : Nat} (h : ¬ k < l.length) : keysFrom l k = 0 := by rw [keysFrom, if_neg h]
theorem keysFrom_name {l : List ByteArray} {k : Nat} (h : k < l.length) (h1 : keyOkB (l.getD k ⟨#[]⟩) = false) : keysFrom l k = 12 := by rw [keysFrom, if_pos h, h1]; rfl
theorem keysFrom_order {l : List ByteArray} {k : Nat} (h : k < l.length) (h1 : keyOkB (l.getD k ⟨#[]⟩) = true) (h2 : 0 < k) (h3 : (strLt (l.getD k ⟨#[]⟩) (l.getD (k - 1) ⟨#[]⟩) || decide (l.getD k ⟨#[]⟩ = l.getD (k - 1) ⟨#[]⟩)) = true) : keysFrom l k = 5 := by rw [keysFrom, if_pos h, if_pos h1, if_pos ⟨h2, h3⟩]
theorem keysFrom_next0 {l : List ByteArray} {k : Nat} (h : k < l.length) (h1 : keyOkB (l.getD k ⟨#[]⟩) = true) (h2 : ¬ 0 < k) : keysFrom l k = keysFrom l (k + 1) := by
  rw [keysFrom, if_pos h, if_pos h1, if_neg (fun h => h2 h.1)]
theorem keysFrom_next {l : List ByteArray} {k : Nat} (h : k < l.length) (h1 : keyOkB (l.getD k ⟨#[]⟩) = true) (h3 : (strLt (l.getD k ⟨#[]⟩) (l.getD (k - 1) ⟨#[]⟩) || decide (l.getD k ⟨#[]⟩ = l.getD (k - 1) ⟨#[]⟩)) = false) : keysFrom l k = keysFrom l (k + 1) := by
  rw [keysFrom, if_pos h, if_pos h1, if_neg (fun h => by rw [h3] at h; cases h.2)]
def headE (v : Vu) : Int :=
  if v.kind < 0 ∨ 6 < v.kind then 10 else if unusedP v then 1 else if v.kind = 4 ∧ badDayP v.i then 2 else if 5000 < v.text.size then 4 else if badStr v.text = true then 9 else keysFrom v.keys 0
section
variable (E : Env)
set_option maxRecDepth 100000
set_option maxHeartbeats 1000000 in
theorem valueFault_sp (v : Vu) : Sp (cx Tryz.prog mixed tyT_ok E) 68 [encV v] (i64 (headE v)) := by
  refine Sp.body Tryz.func68 (by kernel_rfl) rfl (by kernel_rfl) (by kernel_rfl) (by kernel_rfl) ?_
  repeat' first
    | (refine facW_intro ?_; intro _)
    | refine Or.inl ?_
    | ((conv => whnf); first | (refine condW_dec ?_ ?_ <;> intro _) | refine condW_not ?_ | (refine condW_bool ?_ ?_ <;> intro _) | (refine nbC_t (fun _ => ?_) ?_) | (refine nbC_f ?_ (fun _ => ?_)))
    | refine And.intro (by first | omega | (simp only [Int.toNat_natCast] at *; omega) | (simp only [Nat.reduceAdd, Int.cast_ofNat_Int, true_and, and_true]; omega)  | kernel_rfl) ?_
    | refine RegW.run ?_
    | refine ⟨_, unused_sp E v, ?_⟩
    | refine ⟨_, badDay_sp E _, ?_⟩
    | refine ⟨_, badBytes_sp E _, ?_⟩
    | fail
  all_goals first
    | exact Dle.i (by unfold headE; grind)
    | skip
  all_goals
    have hR : headE v = keysFrom v.keys 0 := by unfold headE; grind
    refine ⟨Nat, fun k => [(38, i64 k)], fun k => [], [1], fun k => [], fun k => k ≤ v.keys.length ∧ headE v = keysFrom v.keys k, fun k => v.keys.length - k, ⟨0, ⟨by omega, hR⟩, ⟨[], ⟨by kernel_rfl, by kernel_rfl, by kernel_rfl, by kernel_rfl, by kernel_rfl, by kernel_rfl, by kernel_rfl⟩, (by repeat' first | exact trivial | exact rfl | kernel_rfl | exact Dle.of_eq rfl | exact MLe.of_eq rfl | exact Dle.i (by omega) | exact Dle.i (by simp only [Int.toNat_natCast] at *; omega) | exact Dle.nil | exact Dle.rc Dle.nil | exact Option.some_ne_none _ | exact Or.inl rfl | exact Or.inr trivial | omega | (simp only [Int.toNat_natCast] at *; omega) | (intro _ _ _ _; exact Dle.of_eq rfl) | refine And.intro ?_ ?_)⟩⟩, fun k hk => ?_⟩
    obtain ⟨hk, hK⟩ := hk
  repeat' first
    | (refine facW_intro ?_; intro _)
    | refine Or.inl ?_
    | ((conv => whnf); first | (refine condW_dec ?_ ?_ <;> intro _) | refine condW_not ?_ | (refine condW_bool ?_ ?_ <;> intro _) | (refine nbC_t (fun _ => ?_) ?_) | (refine nbC_f ?_ (fun _ => ?_)))
    | refine And.intro (by first | omega | (simp only [Int.toNat_natCast] at *; omega) | (simp only [Nat.reduceAdd, Int.cast_ofNat_Int, true_and, and_true]; omega)  | kernel_rfl) ?_
    | refine RegW.run ?_
    | refine ⟨_, isKey_sp E _, ?_⟩
    | fail
  all_goals first
    | exact Dle.i (by rw [hK, keysFrom_end (by omega)])
    | exact Dle.i (by rw [hK, keysFrom_name (by omega) (by simp only [Int.toNat_natCast] at *; first | assumption | (rw [show ((k : Int) - 1).toNat = k - 1 by omega] at *; assumption))])
    | exact Dle.i (by rw [hK, keysFrom_order (by omega) (by simp only [Int.toNat_natCast] at *; first | assumption | (rw [show ((k : Int) - 1).toNat = k - 1 by omega] at *; assumption)) (by omega) (by simp only [Int.toNat_natCast] at *; first | assumption | (rw [show ((k : Int) - 1).toNat = k - 1 by omega] at *; assumption))])
    | exact ⟨k + 1, ⟨by omega, by rw [hK, keysFrom_next0 (by omega) (by simp only [Int.toNat_natCast] at *; first | assumption | (rw [show ((k : Int) - 1).toNat = k - 1 by omega] at *; assumption)) (by omega)]⟩, ⟨[], ⟨by kernel_rfl, by kernel_rfl, by kernel_rfl, by kernel_rfl, by kernel_rfl, by kernel_rfl, by kernel_rfl⟩, (by repeat' first | exact trivial | exact rfl | kernel_rfl | exact Dle.of_eq rfl | exact MLe.of_eq rfl | exact Dle.i (by omega) | exact Dle.i (by simp only [Int.toNat_natCast] at *; omega) | exact Dle.nil | exact Dle.rc Dle.nil | exact Option.some_ne_none _ | exact Or.inl rfl | exact Or.inr trivial | omega | (simp only [Int.toNat_natCast] at *; omega) | (intro _ _ _ _; exact Dle.of_eq rfl) | refine And.intro ?_ ?_)⟩, by first | omega | (dsimp only; omega)⟩
    | exact ⟨k + 1, ⟨by omega, by rw [hK, keysFrom_next (by omega) (by simp only [Int.toNat_natCast] at *; first | assumption | (rw [show ((k : Int) - 1).toNat = k - 1 by omega] at *; assumption)) (by simp only [Int.toNat_natCast] at *; first | assumption | (rw [show ((k : Int) - 1).toNat = k - 1 by omega] at *; assumption))]⟩, ⟨[], ⟨by kernel_rfl, by kernel_rfl, by kernel_rfl, by kernel_rfl, by kernel_rfl, by kernel_rfl, by kernel_rfl⟩, (by repeat' first | exact trivial | exact rfl | kernel_rfl | exact Dle.of_eq rfl | exact MLe.of_eq rfl | exact Dle.i (by omega) | exact Dle.i (by simp only [Int.toNat_natCast] at *; omega) | exact Dle.nil | exact Dle.rc Dle.nil | exact Option.some_ne_none _ | exact Or.inl rfl | exact Or.inr trivial | omega | (simp only [Int.toNat_natCast] at *; omega) | (intro _ _ _ _; exact Dle.of_eq rfl) | refine And.intro ?_ ?_)⟩, by first | omega | (dsimp only; omega)⟩
    | trace_state
end
end Go.Proofs.YtocehfhhmljejaaGreatDoor
namespace Go.Proofs.YtocehfhhmljejaaGreatDoor
open Go.RowKit
set_option linter.unusedVariables false
set_option linter.unusedSimpArgs false

theorem drop_cons {α : Type} (l : List α) (d : α) (k : Nat) (h : k < l.length) : l.drop k = l.getD k d :: l.drop (k + 1) := by
  rw [List.drop_eq_getElem_cons h]
  simp [List.getD, h]
theorem items_lt (v : Vu) (x : Vu) (h : x ∈ v.items) : SizeOf.sizeOf x < SizeOf.sizeOf v := by
  cases v with
  | mk k b i t l ks =>
    have := List.sizeOf_lt_of_mem h
    simp only [Vu.items] at this
    simp
    omega
mutual
def lvl : Vu → Nat
  | .mk _ _ _ _ l _ => lvlL l + 1
def lvlL : List Vu → Nat
  | [] => 0
  | x :: r => max (lvl x) (lvlL r)
end
theorem lvl_eq (v : Vu) : lvl v = lvlL v.items + 1 := by cases v; simp [lvl, Vu.items]
theorem lvlL_app (l : List Vu) (x : Vu) : lvlL (l ++ [x]) = max (lvlL l) (lvl x) := by
  induction l with
  | nil => simp [lvlL]
  | cons a l ih => simp only [List.cons_append, lvlL, ih]; omega
theorem lvl_mem (l : List Vu) (x : Vu) (h : x ∈ l) : lvl x ≤ lvlL l := by
  induction l with
  | nil => cases h
  | cons a l ih =>
    rcases List.mem_cons.1 h with rfl | h
    · simp [lvlL]; omega
    · have := ih h; simp [lvlL]; omega
mutual
def cnt : Vu → Nat
  | .mk _ _ _ _ l _ => cntL l + 1
def cntL : List Vu → Nat
  | [] => 0
  | x :: r => cnt x + cntL r
end
theorem cnt_eq (v : Vu) : cnt v = cntL v.items + 1 := by cases v; simp [cnt, Vu.items]
theorem cntL_app (l : List Vu) (x : Vu) : cntL (l ++ [x]) = cntL l + cnt x := by
  induction l with
  | nil => simp [cntL]
  | cons a l ih => simp only [List.cons_append, cntL, ih]; omega
theorem cnt_mem (l : List Vu) (x : Vu) (h : x ∈ l) : cnt x ≤ cntL l := by
  induction l with
  | nil => cases h
  | cons a l ih =>
    rcases List.mem_cons.1 h with rfl | h
    · simp [cntL]
    · have := ih h; simp [cntL]; omega
theorem cntL_take (l : List Vu) (k : Nat) : cntL (l.take k) ≤ cntL l := by
  induction l generalizing k with
  | nil => simp [cntL]
  | cons a l ih => cases k with
    | zero => simp [cntL]
    | succ k => have := ih k; simp only [List.take_succ_cons, cntL]; omega
mutual
theorem lvl_le_cnt : ∀ v : Vu, lvl v ≤ cnt v
  | .mk _ _ _ _ l _ => by have := lvlL_le_cnt l; simp only [lvl, cnt]; omega
theorem lvlL_le_cnt : ∀ l : List Vu, lvlL l ≤ cntL l
  | [] => by simp [lvlL]
  | x :: r => by have := lvl_le_cnt x; have := lvlL_le_cnt r; simp only [lvlL, cntL]; omega
end
mutual
def cb : Vu → Nat
  | .mk _ _ _ _ l _ => cbL l 1
def cbL : List Vu → Nat → Nat
  | [], n => n
  | x :: r, n => if 1000 < n then n else cbL r (n + cb x)
end
theorem cb_eq (v : Vu) : cb v = cbL v.items 1 := by cases v; simp [cb, Vu.items]
mutual
theorem cb_cnt : ∀ v : Vu, cb v ≤ cnt v ∧ (cb v ≤ 1000 → cb v = cnt v)
  | .mk _ _ _ _ l _ => by have := cbL_cnt l 1; simp only [cb, cnt]; omega
theorem cbL_cnt : ∀ (l : List Vu) (n : Nat), cbL l n ≤ n + cntL l ∧ (cbL l n ≤ 1000 → cbL l n = n + cntL l) ∧ n ≤ cbL l n
  | [], n => by simp [cbL, cntL]
  | x :: r, n => by
    have h1 := cb_cnt x
    have h2 := cbL_cnt r (n + cb x)
    simp only [cbL, cntL]
    split <;> omega
end
mutual
def faultE : Vu → Int
  | .mk k b i t l ks => if headE (.mk k b i t l ks) = 0 then faultL l else headE (.mk k b i t l ks)
def faultL : List Vu → Int
  | [] => 0
  | x :: r => if faultE x = 0 then faultL r else faultE x
end
theorem faultE_eq (v : Vu) : faultE v = if headE v = 0 then faultL v.items else headE v := by cases v; simp only [faultE, Vu.items]
theorem faultL_drop {l : List Vu} {k : Nat} (h : k < l.length) : faultL (l.drop k) = if faultE (l.getD k .zero) = 0 then faultL (l.drop (k + 1)) else faultE (l.getD k .zero) := by
  rw [drop_cons l .zero k h]; simp only [faultL]
theorem faultL_end {l : List Vu} {k : Nat} (h : l.length ≤ k) : faultL (l.drop k) = 0 := by rw [List.drop_of_length_le h]; rfl
theorem cbL_drop {l : List Vu} {k n : Nat} (h : k < l.length) : cbL (l.drop k) n = if 1000 < n then n else cbL (l.drop (k + 1)) (n + cb (l.getD k .zero)) := by
  rw [drop_cons l .zero k h]; simp only [cbL]
theorem cbL_end {l : List Vu} {k n : Nat} (h : l.length ≤ k) : cbL (l.drop k) n = n := by rw [List.drop_of_length_le h]; rfl
def checkE (v : Vu) : Int := if 1000 < cnt v then 4 else if 8 < lvl v then 13 else faultE v
section
variable (E : Env)
set_option maxRecDepth 100000

theorem levels_sp : ∀ (N : Nat) (v : Vu), SizeOf.sizeOf v < N → lvl v ≤ 4611686018427387904 → Sp (cx Tryz.prog mixed tyT_ok E) 29 [encV v] (i64 (lvl v))
  | 0, v, h, _ => by omega
  | N + 1, v, h, hb => by
    have ih := fun x (hx : x ∈ v.items) => levels_sp N x (by have := items_lt v x hx; omega) (by have := lvl_mem v.items x hx; rw [lvl_eq] at hb; omega)
    rw [lvl_eq] at hb ⊢
    refine Sp.body Tryz.func29 (by kernel_rfl) rfl (by kernel_rfl) (by kernel_rfl) (by kernel_rfl) ?_
    refine fun hlen => ?_
    refine ⟨Nat, fun k => [(3, i64 (lvlL (v.items.take k))), (9, i64 k)], fun k => [], [], fun k => [], fun k => k ≤ v.items.length, fun k => v.items.length - k, ⟨0, by omega, ⟨[], ⟨by kernel_rfl, by kernel_rfl, by kernel_rfl, by kernel_rfl, by kernel_rfl, by kernel_rfl, by kernel_rfl⟩, (by repeat' first | exact trivial | exact rfl | kernel_rfl | exact Dle.of_eq rfl | exact MLe.of_eq rfl | exact Dle.i (by omega) | exact Dle.i (by simp only [Int.toNat_natCast] at *; omega) | exact Dle.nil | exact Dle.rc Dle.nil | exact Option.some_ne_none _ | exact Or.inl rfl | exact Or.inr trivial | omega | (simp only [Int.toNat_natCast] at *; omega) | (intro _ _ _ _; exact Dle.of_eq rfl) | refine And.intro ?_ ?_)⟩⟩, fun k hk => ?_⟩
    refine Or.inl ?_
    refine condW_dec ?_ ?_
    · intro hlt
      have hlt : k < v.items.length := by omega
      refine ⟨by omega, ?_⟩
      refine Or.inl (Or.inl ⟨_, ih _ (getD_mem v.items .zero k hlt), ?_⟩)
      refine ⟨by omega, ?_⟩
      have e1 : lvlL (v.items.take (k + 1)) = max (lvlL (v.items.take k)) (lvl (v.items.getD k .zero)) := by rw [take_snoc v.items .zero k hlt, lvlL_app]
      exact ⟨k + 1, hlt, ⟨[], ⟨by kernel_rfl, by kernel_rfl, by kernel_rfl, by kernel_rfl, by kernel_rfl, by kernel_rfl, by kernel_rfl⟩, (by repeat' first | exact trivial | exact rfl | kernel_rfl | exact Dle.of_eq rfl | exact MLe.of_eq rfl | exact Dle.i (by omega) | exact Dle.i (by simp only [Int.toNat_natCast] at *; omega) | exact Dle.nil | exact Dle.rc Dle.nil | exact Option.some_ne_none _ | exact Or.inl rfl | exact Or.inr trivial | omega | (simp only [Int.toNat_natCast] at *; omega) | (intro _ _ _ _; exact Dle.of_eq rfl) | refine And.intro ?_ ?_)⟩, by first | omega | (dsimp only; omega)⟩
    · intro hge
      have : k = v.items.length := by omega
      subst this
      have e : v.items.take v.items.length = v.items := List.take_length
      refine ⟨by rw [e]; omega, ?_⟩
      exact Dle.i (by rw [e]; omega)
theorem count_sp : ∀ (N : Nat) (v : Vu), SizeOf.sizeOf v < N → cnt v ≤ 4611686018427387904 → Sp (cx Tryz.prog mixed tyT_ok E) 28 [encV v] (i64 (cb v))
  | 0, v, h, _ => by omega
  | N + 1, v, h, hb => by
    have ih := fun x (hx : x ∈ v.items) => count_sp N x (by have := items_lt v x hx; omega) (by have := cnt_mem v.items x hx; rw [cnt_eq] at hb; omega)
    rw [cnt_eq] at hb
    refine Sp.body Tryz.func28 (by kernel_rfl) rfl (by kernel_rfl) (by kernel_rfl) (by kernel_rfl) ?_
    refine fun hlen => ?_
    refine ⟨Nat × Nat, fun k => [(3, i64 k.2), (9, i64 k.1)], fun k => [], [], fun k => [], fun k => k.1 ≤ v.items.length ∧ cb v = cbL (v.items.drop k.1) k.2, fun k => v.items.length - k.1, ⟨(0, 1), ⟨by omega, by rw [cb_eq]; rfl⟩, ⟨[], ⟨by kernel_rfl, by kernel_rfl, by kernel_rfl, by kernel_rfl, by kernel_rfl, by kernel_rfl, by kernel_rfl⟩, (by repeat' first | exact trivial | exact rfl | kernel_rfl | exact Dle.of_eq rfl | exact MLe.of_eq rfl | exact Dle.i (by omega) | exact Dle.i (by simp only [Int.toNat_natCast] at *; omega) | exact Dle.nil | exact Dle.rc Dle.nil | exact Option.some_ne_none _ | exact Or.inl rfl | exact Or.inr trivial | omega | (simp only [Int.toNat_natCast] at *; omega) | (intro _ _ _ _; exact Dle.of_eq rfl) | refine And.intro ?_ ?_)⟩⟩, fun k hk => ?_⟩
    obtain ⟨k, n⟩ := k
    obtain ⟨hk, hK⟩ := hk
    dsimp only at hk hK
    refine Or.inl ?_
    refine condW_dec ?_ ?_
    · intro hlt
      have hlt : k < v.items.length := by dsimp only at hlt; omega
      repeat' first
        | (refine facW_intro ?_; intro _)
        | refine Or.inl ?_
        | ((conv => whnf); first | (refine condW_dec ?_ ?_ <;> intro _) | refine condW_not ?_ | (refine condW_bool ?_ ?_ <;> intro _) | (refine nbC_t (fun _ => ?_) ?_) | (refine nbC_f ?_ (fun _ => ?_)))
        | refine And.intro (by first | omega | (simp only [Int.toNat_natCast] at *; omega) | (simp only [Nat.reduceAdd, Int.cast_ofNat_Int, true_and, and_true]; omega)  | kernel_rfl) ?_
        | refine RegW.run ?_
        | fail
      · exact Dle.i (by rw [hK, cbL_drop hlt, if_pos (by omega)])
      · refine ⟨_, ih _ (getD_mem v.items .zero k hlt), ?_⟩
        have h1 := (cb_cnt (v.items.getD k .zero)).1
        have h2 := cnt_mem v.items _ (getD_mem v.items .zero k hlt)
        repeat' first
          | (refine facW_intro ?_; intro _)
          | refine Or.inl ?_
          | ((conv => whnf); first | (refine condW_dec ?_ ?_ <;> intro _) | refine condW_not ?_ | (refine condW_bool ?_ ?_ <;> intro _) | (refine nbC_t (fun _ => ?_) ?_) | (refine nbC_f ?_ (fun _ => ?_)))
          | refine And.intro (by first | omega | (simp only [Int.toNat_natCast] at *; omega) | (simp only [Nat.reduceAdd, Int.cast_ofNat_Int, true_and, and_true]; omega)  | kernel_rfl) ?_
          | refine RegW.run ?_
          | fail
        exact ⟨(k + 1, n + cb (v.items.getD k .zero)), ⟨by dsimp only; omega, by dsimp only; rw [hK, cbL_drop hlt, if_neg (by dsimp only at *; omega)]⟩, ⟨[], ⟨by kernel_rfl, by kernel_rfl, by kernel_rfl, by kernel_rfl, by kernel_rfl, by kernel_rfl, by kernel_rfl⟩, (by repeat' first | exact trivial | exact rfl | kernel_rfl | exact Dle.of_eq rfl | exact MLe.of_eq rfl | exact Dle.i (by omega) | exact Dle.i (by simp only [Int.toNat_natCast] at *; omega) | exact Dle.nil | exact Dle.rc Dle.nil | exact Option.some_ne_none _ | exact Or.inl rfl | exact Or.inr trivial | omega | (simp only [Int.toNat_natCast] at *; omega) | (intro _ _ _ _; exact Dle.of_eq rfl) | refine And.intro ?_ ?_)⟩, by first | omega | (dsimp only; omega)⟩
    · intro hge
      repeat' first
        | (refine facW_intro ?_; intro _)
        | refine Or.inl ?_
        | ((conv => whnf); first | (refine condW_dec ?_ ?_ <;> intro _) | refine condW_not ?_ | (refine condW_bool ?_ ?_ <;> intro _) | (refine nbC_t (fun _ => ?_) ?_) | (refine nbC_f ?_ (fun _ => ?_)))
        | refine And.intro (by first | omega | (simp only [Int.toNat_natCast] at *; omega) | (simp only [Nat.reduceAdd, Int.cast_ofNat_Int, true_and, and_true]; omega)  | kernel_rfl) ?_
        | refine RegW.run ?_
        | fail
      exact Dle.i (by rw [hK, cbL_end (by dsimp only at *; omega)])
theorem valuesFault_sp : ∀ (N : Nat) (v : Vu), SizeOf.sizeOf v < N → Sp (cx Tryz.prog mixed tyT_ok E) 30 [encV v] (i64 (faultE v))
  | 0, v, h => by omega
  | N + 1, v, h => by
    have ih := fun x (hx : x ∈ v.items) => valuesFault_sp N x (by have := items_lt v x hx; omega)
    refine Sp.body Tryz.func30 (by kernel_rfl) rfl (by kernel_rfl) (by kernel_rfl) (by kernel_rfl) ?_
    repeat' first
      | (refine facW_intro ?_; intro _)
      | refine Or.inl ?_
      | ((conv => whnf); first | (refine condW_dec ?_ ?_ <;> intro _) | refine condW_not ?_ | (refine condW_bool ?_ ?_ <;> intro _) | (refine nbC_t (fun _ => ?_) ?_) | (refine nbC_f ?_ (fun _ => ?_)))
      | refine And.intro (by first | omega | (simp only [Int.toNat_natCast] at *; omega) | (simp only [Nat.reduceAdd, Int.cast_ofNat_Int, true_and, and_true]; omega)  | kernel_rfl) ?_
      | refine RegW.run ?_
      | refine ⟨_, valueFault_sp E v, ?_⟩
      | fail
    · refine ⟨Nat, fun k => [(15, i64 k)], fun k => [], [], fun k => [], fun k => k ≤ v.items.length ∧ faultE v = faultL (v.items.drop k), fun k => v.items.length - k, ⟨0, ⟨by omega, by rw [faultE_eq, if_pos (by assumption)]; rfl⟩, ⟨[], ⟨by kernel_rfl, by kernel_rfl, by kernel_rfl, by kernel_rfl, by kernel_rfl, by kernel_rfl, by kernel_rfl⟩, (by repeat' first | exact trivial | exact rfl | kernel_rfl | exact Dle.of_eq rfl | exact MLe.of_eq rfl | exact Dle.i (by omega) | exact Dle.i (by simp only [Int.toNat_natCast] at *; omega) | exact Dle.nil | exact Dle.rc Dle.nil | exact Option.some_ne_none _ | exact Or.inl rfl | exact Or.inr trivial | omega | (simp only [Int.toNat_natCast] at *; omega) | (intro _ _ _ _; exact Dle.of_eq rfl) | refine And.intro ?_ ?_)⟩⟩, fun k hk => ?_⟩
      obtain ⟨hk, hK⟩ := hk
      refine Or.inl ?_
      refine condW_dec ?_ ?_
      · intro hlt
        have hlt : k < v.items.length := by omega
        repeat' first
          | (refine facW_intro ?_; intro _)
          | refine Or.inl ?_
          | ((conv => whnf); first | (refine condW_dec ?_ ?_ <;> intro _) | refine condW_not ?_ | (refine condW_bool ?_ ?_ <;> intro _) | (refine nbC_t (fun _ => ?_) ?_) | (refine nbC_f ?_ (fun _ => ?_)))
          | refine And.intro (by first | omega | (simp only [Int.toNat_natCast] at *; omega) | (simp only [Nat.reduceAdd, Int.cast_ofNat_Int, true_and, and_true]; omega)  | kernel_rfl) ?_
          | refine RegW.run ?_
          | refine ⟨_, ih _ (getD_mem v.items .zero k hlt), ?_⟩
          | fail
        · refine ⟨k + 1, ⟨by omega, ?_⟩, ⟨[], ⟨by kernel_rfl, by kernel_rfl, by kernel_rfl, by kernel_rfl, by kernel_rfl, by kernel_rfl, by kernel_rfl⟩, (by repeat' first | exact trivial | exact rfl | kernel_rfl | exact Dle.of_eq rfl | exact MLe.of_eq rfl | exact Dle.i (by omega) | exact Dle.i (by simp only [Int.toNat_natCast] at *; omega) | exact Dle.nil | exact Dle.rc Dle.nil | exact Option.some_ne_none _ | exact Or.inl rfl | exact Or.inr trivial | omega | (simp only [Int.toNat_natCast] at *; omega) | (intro _ _ _ _; exact Dle.of_eq rfl) | refine And.intro ?_ ?_)⟩, by first | omega | (dsimp only; omega)⟩
          rw [hK, faultL_drop hlt, if_pos (by simp only [Int.toNat_natCast] at *; first | assumption | (rw [show ((k : Int) - 1).toNat = k - 1 by omega] at *; assumption))]
        · refine Dle.i ?_
          rw [hK, faultL_drop hlt, if_neg (by simp only [Int.toNat_natCast] at *; first | assumption | (rw [show ((k : Int) - 1).toNat = k - 1 by omega] at *; assumption))]
          rfl
      · intro hge
        repeat' first
          | (refine facW_intro ?_; intro _)
          | refine Or.inl ?_
          | ((conv => whnf); first | (refine condW_dec ?_ ?_ <;> intro _) | refine condW_not ?_ | (refine condW_bool ?_ ?_ <;> intro _) | (refine nbC_t (fun _ => ?_) ?_) | (refine nbC_f ?_ (fun _ => ?_)))
          | refine And.intro (by first | omega | (simp only [Int.toNat_natCast] at *; omega) | (simp only [Nat.reduceAdd, Int.cast_ofNat_Int, true_and, and_true]; omega)  | kernel_rfl) ?_
          | refine RegW.run ?_
          | fail
        exact Dle.i (by rw [hK, faultL_end (by omega)])
    · exact Dle.i (by rw [faultE_eq, if_neg (by assumption)])
theorem check_sp (v : Vu) (hb : cnt v ≤ 4611686018427387904) : Sp (cx Tryz.prog mixed tyT_ok E) 7 [encV v] (i64 (checkE v)) := by
  have hl := lvl_le_cnt v
  have hc := cb_cnt v
  refine Sp.body Tryz.func7 (by kernel_rfl) rfl (by kernel_rfl) (by kernel_rfl) (by kernel_rfl) ?_
  repeat' first
    | (refine facW_intro ?_; intro _)
    | refine Or.inl ?_
    | ((conv => whnf); first | (refine condW_dec ?_ ?_ <;> intro _) | refine condW_not ?_ | (refine condW_bool ?_ ?_ <;> intro _) | (refine nbC_t (fun _ => ?_) ?_) | (refine nbC_f ?_ (fun _ => ?_)))
    | refine And.intro (by first | omega | (simp only [Int.toNat_natCast] at *; omega) | (simp only [Nat.reduceAdd, Int.cast_ofNat_Int, true_and, and_true]; omega)  | kernel_rfl) ?_
    | refine RegW.run ?_
    | refine ⟨_, count_sp E _ v (Nat.lt_succ_self _) hb, ?_⟩
    | refine ⟨_, levels_sp E _ v (Nat.lt_succ_self _) (by omega), ?_⟩
    | refine ⟨_, valuesFault_sp E _ v (Nat.lt_succ_self _), ?_⟩
    | fail
  all_goals exact Dle.i (by unfold checkE; grind)
end
end Go.Proofs.YtocehfhhmljejaaGreatDoor
