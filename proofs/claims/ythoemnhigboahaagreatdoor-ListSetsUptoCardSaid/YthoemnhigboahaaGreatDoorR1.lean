/-
  Keys and counts of the package list. list.valueFault, CheckItem.
-/
import Derived.Test.YthoemnhigboahaaGreatDoorQ6
namespace Go.Proofs.YthoemnhigboahaaGreatDoor
open Go.RowKit
set_option linter.unusedVariables false
set_option linter.unusedSimpArgs false
mutual
def cq (m : Nat) : Vu → Nat
  | .mk _ _ _ _ l _ => cqL m l 1
def cqL (m : Nat) : List Vu → Nat → Nat
  | [], n => n
  | x :: r, n => if m < n then n else cqL m r (n + cq m x)
end
theorem cq_eq {m : Nat} (v : Vu) : cq m v = cqL m v.items 1 := by cases v; simp [cq, Vu.items]
mutual
theorem cq_cnt (m : Nat) : ∀ v : Vu, cq m v ≤ cnt v ∧ (cq m v ≤ m → cq m v = cnt v)
  | .mk _ _ _ _ l _ => by have := cqL_cnt m l 1; simp only [cq, cnt]; omega
theorem cqL_cnt (m : Nat) : ∀ (l : List Vu) (n : Nat), cqL m l n ≤ n + cntL l ∧ (cqL m l n ≤ m → cqL m l n = n + cntL l) ∧ n ≤ cqL m l n
  | [], n => by simp [cqL, cntL]
  | x :: r, n => by
    have h1 := cq_cnt m x
    have h2 := cqL_cnt m r (n + cq m x)
    simp only [cqL, cntL]
    split <;> omega
end
theorem cqL_drop {m : Nat} {l : List Vu} {k n : Nat} (h : k < l.length) : cqL m (l.drop k) n = if m < n then n else cqL m (l.drop (k + 1)) (n + cq m (l.getD k .zero)) := by
  rw [drop_cons l .zero k h]; simp only [cqL]
theorem cqL_end {m : Nat} {l : List Vu} {k n : Nat} (h : l.length ≤ k) : cqL m (l.drop k) n = n := by rw [List.drop_of_length_le h]; rfl
section
variable (E : Env)
set_option maxRecDepth 100000
theorem l_isSmall_sp (c : UInt8) : Sp (cx Tryz.prog mixed tyT_ok E) 113 [.v (.int .u8 c.toNat)] (dB (smallB c)) := by
  refine Sp.body Tryz.func113 (by kernel_rfl) rfl (by kernel_rfl) (by kernel_rfl) (by kernel_rfl) ?_
  refine condW_dec ?_ ?_
  · intro h
    exact Dle.bo (by unfold smallB; grind)
  · intro h
    exact Dle.bo (by unfold smallB; grind)
theorem l_isDigit_sp (c : UInt8) : Sp (cx Tryz.prog mixed tyT_ok E) 87 [.v (.int .u8 c.toNat)] (dB (digitB c)) := by
  refine Sp.body Tryz.func87 (by kernel_rfl) rfl (by kernel_rfl) (by kernel_rfl) (by kernel_rfl) ?_
  refine condW_dec ?_ ?_
  · intro h
    exact Dle.bo (by unfold digitB; grind)
  · intro h
    exact Dle.bo (by unfold digitB; grind)
theorem l_isKey_sp (s : ByteArray) : Sp (cx Tryz.prog mixed tyT_ok E) 86 [dS s] (dB (keyOkB s)) := by
  refine Sp.body Tryz.func86 (by kernel_rfl) rfl (by kernel_rfl) (by kernel_rfl) (by kernel_rfl) ?_
  refine Or.inl ?_
  refine condW_dec ?_ ?_ <;> intro h0
  · exact Dle.bo (by rw [keyOkB_no1 h0])
  have hp := str_pos h0
  repeat' first
    | (refine facW_intro ?_; intro _)
    | refine Or.inl ?_
    | ((conv => whnf); first | (refine condW_dec ?_ ?_ <;> intro _) | refine condW_not ?_ | (refine condW_bool ?_ ?_ <;> intro _) | (refine nbC_t (fun _ => ?_) ?_) | (refine nbC_f ?_ (fun _ => ?_)))
    | refine And.intro (by first | omega | (simp only [Int.toNat_natCast] at *; omega) | (simp only [Nat.reduceAdd, Int.cast_ofNat_Int, true_and, and_true]; omega)  | kernel_rfl) ?_
    | refine RegW.run ?_
    | refine ⟨_, l_isSmall_sp E _, ?_⟩
    | fail
  · exact Dle.bo (by rw [keyOkB_no2 (by omega)])
  rotate_left
  · rename_i h
    exact Dle.bo (by rw [keyOkB_no3 h])
  rename_i hs
  refine ⟨Nat, fun k => [(3, i64 k)], fun k => [], [], fun k => [], fun k => 1 ≤ k ∧ k ≤ s.size ∧ allN k (fun k => kchB (bAt s k)) = true, fun k => s.size - k, ⟨1, ⟨by omega, by omega, allN_one rfl (by simp only [kchB, Bool.or_eq_true]; exact Or.inl (Or.inl (Or.inl hs)))⟩, ⟨[], ⟨by kernel_rfl, by kernel_rfl, by kernel_rfl, by kernel_rfl, by kernel_rfl, by kernel_rfl, by kernel_rfl⟩, (by repeat' first | exact trivial | exact rfl | kernel_rfl | exact Dle.of_eq rfl | exact MLe.of_eq rfl | exact Dle.i (by omega) | exact Dle.i (by simp only [Int.toNat_natCast] at *; omega) | exact Dle.nil | exact Dle.rc Dle.nil | exact Option.some_ne_none _ | exact Or.inl rfl | exact Or.inr trivial | omega | (simp only [Int.toNat_natCast] at *; omega) | (intro _ _ _ _; exact Dle.of_eq rfl) | refine And.intro ?_ ?_)⟩⟩, fun k hk => ?_⟩
  obtain ⟨h1, hk, hall⟩ := hk
  have hend : s.size ≤ k → keyOkB s = true := fun h => by
    obtain rfl : k = s.size := by omega
    exact keyOkB_yes hp (by omega) hs hall
  have hno : k < s.size → kchB (bAt s k) = false → keyOkB s = false := fun h e => keyOkB_no4 e h
  repeat' first
    | (refine facW_intro ?_; intro _)
    | refine Or.inl ?_
    | ((conv => whnf); first | (refine condW_dec ?_ ?_ <;> intro _) | refine condW_not ?_ | (refine condW_bool ?_ ?_ <;> intro _) | (refine nbC_t (fun _ => ?_) ?_) | (refine nbC_f ?_ (fun _ => ?_)))
    | refine And.intro (by first | omega | (simp only [Int.toNat_natCast] at *; omega) | (simp only [Nat.reduceAdd, Int.cast_ofNat_Int, true_and, and_true]; omega)  | kernel_rfl) ?_
    | refine RegW.run ?_
    | refine ⟨_, l_isSmall_sp E _, ?_⟩
    | refine ⟨_, l_isDigit_sp E _, ?_⟩
    | fail
  all_goals first
    | (refine ⟨k + 1, ⟨by omega, by omega, allN_succ hall ?_⟩, ⟨[], ⟨by kernel_rfl, by kernel_rfl, by kernel_rfl, by kernel_rfl, by kernel_rfl, by kernel_rfl, by kernel_rfl⟩, (by repeat' first | exact trivial | exact rfl | kernel_rfl | exact Dle.of_eq rfl | exact MLe.of_eq rfl | exact Dle.i (by omega) | exact Dle.i (by simp only [Int.toNat_natCast] at *; omega) | exact Dle.nil | exact Dle.rc Dle.nil | exact Option.some_ne_none _ | exact Or.inl rfl | exact Or.inr trivial | omega | (simp only [Int.toNat_natCast] at *; omega) | (intro _ _ _ _; exact Dle.of_eq rfl) | refine And.intro ?_ ?_)⟩, by first | omega | (dsimp only; omega)⟩; simp only [Int.toNat_natCast] at *; simp only [kchB, Bool.or_eq_true, decide_eq_true_eq]; grind)
    | exact Dle.bo (by rw [hend (by omega)])
    | exact Dle.bo (by rw [hno (by omega) (by simp only [Int.toNat_natCast] at *; simp only [kchB, Bool.or_eq_false_iff, decide_eq_false_iff_not]; grind)])
    | trace_state
theorem l_levels_sp : ∀ (N : Nat) (v : Vu), SizeOf.sizeOf v < N → lvl v ≤ 4611686018427387904 → Sp (cx Tryz.prog mixed tyT_ok E) 111 [encV v] (i64 (lvl v))
  | 0, v, h, _ => by omega
  | N + 1, v, h, hb => by
    have ih := fun x (hx : x ∈ v.items) => l_levels_sp N x (by have := items_lt v x hx; omega) (by have := lvl_mem v.items x hx; rw [lvl_eq] at hb; omega)
    rw [lvl_eq] at hb ⊢
    refine Sp.body Tryz.func111 (by kernel_rfl) rfl (by kernel_rfl) (by kernel_rfl) (by kernel_rfl) ?_
    refine fun hlen => ?_
    refine ⟨Nat, fun k => [(3, i64 (lvlL (v.items.take k))), (9, i64 k)], fun k => [], [], fun k => [], fun k => k ≤ v.items.length, fun k => v.items.length - k, ⟨0, by omega, ⟨[], ⟨by kernel_rfl, by kernel_rfl, by kernel_rfl, by kernel_rfl, by kernel_rfl, by kernel_rfl, by kernel_rfl⟩, (by repeat' first | exact trivial | exact rfl | kernel_rfl | exact Dle.of_eq rfl | exact MLe.of_eq rfl | exact Dle.i (by omega) | exact Dle.i (by simp only [Int.toNat_natCast] at *; omega) | exact Dle.nil | exact Dle.rc Dle.nil | exact Option.some_ne_none _ | exact Or.inl rfl | exact Or.inr trivial | omega | (simp only [Int.toNat_natCast] at *; omega) | (intro _ _ _ _; exact Dle.of_eq rfl) | refine And.intro ?_ ?_)⟩⟩, fun k hk => ?_⟩
    refine Or.inl ?_
    refine condW_dec ?_ ?_
    · intro hlt
      have hlt : k < v.items.length := by omega
      refine ⟨by omega, ?_⟩
      refine Or.inl (Or.inl ⟨_, ih _ (getD_mem v.items .zero k hlt), ?_⟩)
      refine ⟨by omega, ?_⟩
      have e1 : lvlL (v.items.take (k + 1)) = max (lvlL (v.items.take k)) (lvl (v.items.getD k .zero)) := by rw [take_snoc v.items .zero k hlt, lvlL_app]
      exact ⟨k + 1, hlt, ⟨[], ⟨by kernel_rfl, by kernel_rfl, by kernel_rfl, by kernel_rfl, by kernel_rfl, by kernel_rfl, by kernel_rfl⟩, (by repeat' first | exact trivial | exact rfl | kernel_rfl | exact Dle.of_eq rfl | exact MLe.of_eq rfl | exact Dle.i (by omega) | exact Dle.i (by simp only [Int.toNat_natCast] at *; omega) | exact Dle.nil | exact Dle.rc Dle.nil | exact Option.some_ne_none _ | exact Or.inl rfl | exact Or.inr trivial | omega | (simp only [Int.toNat_natCast] at *; omega) | (intro _ _ _ _; exact Dle.of_eq rfl) | refine And.intro ?_ ?_)⟩, by first | omega | (dsimp only; omega)⟩
    · intro hge
      have : k = v.items.length := by omega
      subst this
      have e : v.items.take v.items.length = v.items := List.take_length
      refine ⟨by rw [e]; omega, ?_⟩
      exact Dle.i (by rw [e]; omega)
theorem l_count_sp : ∀ (N : Nat) (v : Vu), SizeOf.sizeOf v < N → cnt v ≤ 4611686018427387904 → Sp (cx Tryz.prog mixed tyT_ok E) 110 [encV v] (i64 (cq 5000 v))
  | 0, v, h, _ => by omega
  | N + 1, v, h, hb => by
    have ih := fun x (hx : x ∈ v.items) => l_count_sp N x (by have := items_lt v x hx; omega) (by have := cnt_mem v.items x hx; rw [cnt_eq] at hb; omega)
    rw [cnt_eq] at hb
    refine Sp.body Tryz.func110 (by kernel_rfl) rfl (by kernel_rfl) (by kernel_rfl) (by kernel_rfl) ?_
    refine fun hlen => ?_
    refine ⟨Nat × Nat, fun k => [(3, i64 k.2), (9, i64 k.1)], fun k => [], [], fun k => [], fun k => k.1 ≤ v.items.length ∧ cq 5000 v = cqL 5000 (v.items.drop k.1) k.2, fun k => v.items.length - k.1, ⟨(0, 1), ⟨by omega, by rw [cq_eq]; rfl⟩, ⟨[], ⟨by kernel_rfl, by kernel_rfl, by kernel_rfl, by kernel_rfl, by kernel_rfl, by kernel_rfl, by kernel_rfl⟩, (by repeat' first | exact trivial | exact rfl | kernel_rfl | exact Dle.of_eq rfl | exact MLe.of_eq rfl | exact Dle.i (by omega) | exact Dle.i (by simp only [Int.toNat_natCast] at *; omega) | exact Dle.nil | exact Dle.rc Dle.nil | exact Option.some_ne_none _ | exact Or.inl rfl | exact Or.inr trivial | omega | (simp only [Int.toNat_natCast] at *; omega) | (intro _ _ _ _; exact Dle.of_eq rfl) | refine And.intro ?_ ?_)⟩⟩, fun k hk => ?_⟩
    obtain ⟨k, n⟩ := k
    obtain ⟨hk, hK⟩ := hk
    dsimp only at hk hK
    refine Or.inl ?_
    refine condW_dec ?_ ?_
    · intro hlt
      have hlt : k < v.items.length := by dsimp only at hlt; omega
      repeat' first
        | (refine facW_intro ?_; intro _)
        | refine Or.inl ?_
        | ((conv => whnf); first | (refine condW_dec ?_ ?_ <;> intro _) | refine condW_not ?_ | (refine condW_bool ?_ ?_ <;> intro _) | (refine nbC_t (fun _ => ?_) ?_) | (refine nbC_f ?_ (fun _ => ?_)))
        | refine And.intro (by first | omega | (simp only [Int.toNat_natCast] at *; omega) | (simp only [Nat.reduceAdd, Int.cast_ofNat_Int, true_and, and_true]; omega)  | kernel_rfl) ?_
        | refine RegW.run ?_
        | fail
      · exact Dle.i (by rw [hK, cqL_drop hlt, if_pos (by omega)])
      · refine ⟨_, ih _ (getD_mem v.items .zero k hlt), ?_⟩
        have h1 := (cq_cnt 5000 (v.items.getD k .zero)).1
        have h2 := cnt_mem v.items _ (getD_mem v.items .zero k hlt)
        repeat' first
          | (refine facW_intro ?_; intro _)
          | refine Or.inl ?_
          | ((conv => whnf); first | (refine condW_dec ?_ ?_ <;> intro _) | refine condW_not ?_ | (refine condW_bool ?_ ?_ <;> intro _) | (refine nbC_t (fun _ => ?_) ?_) | (refine nbC_f ?_ (fun _ => ?_)))
          | refine And.intro (by first | omega | (simp only [Int.toNat_natCast] at *; omega) | (simp only [Nat.reduceAdd, Int.cast_ofNat_Int, true_and, and_true]; omega)  | kernel_rfl) ?_
          | refine RegW.run ?_
          | fail
        exact ⟨(k + 1, n + cq 5000 (v.items.getD k .zero)), ⟨by dsimp only; omega, by dsimp only; rw [hK, cqL_drop hlt, if_neg (by dsimp only at *; omega)]⟩, ⟨[], ⟨by kernel_rfl, by kernel_rfl, by kernel_rfl, by kernel_rfl, by kernel_rfl, by kernel_rfl, by kernel_rfl⟩, (by repeat' first | exact trivial | exact rfl | kernel_rfl | exact Dle.of_eq rfl | exact MLe.of_eq rfl | exact Dle.i (by omega) | exact Dle.i (by simp only [Int.toNat_natCast] at *; omega) | exact Dle.nil | exact Dle.rc Dle.nil | exact Option.some_ne_none _ | exact Or.inl rfl | exact Or.inr trivial | omega | (simp only [Int.toNat_natCast] at *; omega) | (intro _ _ _ _; exact Dle.of_eq rfl) | refine And.intro ?_ ?_)⟩, by first | omega | (dsimp only; omega)⟩
    · intro hge
      repeat' first
        | (refine facW_intro ?_; intro _)
        | refine Or.inl ?_
        | ((conv => whnf); first | (refine condW_dec ?_ ?_ <;> intro _) | refine condW_not ?_ | (refine condW_bool ?_ ?_ <;> intro _) | (refine nbC_t (fun _ => ?_) ?_) | (refine nbC_f ?_ (fun _ => ?_)))
        | refine And.intro (by first | omega | (simp only [Int.toNat_natCast] at *; omega) | (simp only [Nat.reduceAdd, Int.cast_ofNat_Int, true_and, and_true]; omega)  | kernel_rfl) ?_
        | refine RegW.run ?_
        | fail
      exact Dle.i (by rw [hK, cqL_end (by dsimp only at *; omega)])
end
end Go.Proofs.YthoemnhigboahaaGreatDoor
namespace Go.Proofs.YthoemnhigboahaaGreatDoor
open Go.RowKit
set_option linter.unusedVariables false
set_option linter.unusedSimpArgs false
def skind (k : Int) : Int := if k = 7 ∨ k = 8 then 3 else k
theorem badStr_nil : badStr ⟨#[]⟩ = false := by unfold badStr; rfl
theorem size_nil : (⟨#[]⟩ : ByteArray).size = 0 := rfl
mutual
def setl : Vu → Vu
  | .mk k b i t l ks => .mk (skind k) b i t (setlL l) ks
def setlL : List Vu → List Vu
  | [] => []
  | x :: r => setl x :: setlL r
end
theorem setl_eq (v : Vu) : setl v = .mk (skind v.kind) v.b v.i v.text (setlL v.items) v.keys := by cases v; simp only [setl, Vu.kind, Vu.b, Vu.i, Vu.text, Vu.items, Vu.keys]
theorem setlL_map : ∀ l : List Vu, setlL l = l.map setl
  | [] => rfl
  | x :: r => by rw [setlL, setlL_map r]; rfl
theorem setlL_len (l : List Vu) : (setlL l).length = l.length := by rw [setlL_map, List.length_map]
def headP (k : Int) (b : Bool) (i : Int) (t : ByteArray) (n : Nat) (ks : List ByteArray) : Int :=
  if k < 0 ∨ 6 < k then 10 else if (b = true ∧ k ≠ 1) ∨ (i ≠ 0 ∧ k ≠ 2 ∧ k ≠ 4) ∨ (t ≠ ⟨#[]⟩ ∧ k ≠ 3) ∨ (0 < n ∧ k ≠ 5 ∧ k ≠ 6) ∨ (0 < ks.length ∧ k ≠ 6) ∨ (k = 6 ∧ ks.length ≠ n) then 1
  else if k = 4 ∧ (i < 0 ∨ 84005 < i) then 2 else if 5000 < t.size then 4 else if badStr t = true then 9 else keysFrom ks 0
theorem headE_P (v : Vu) : headE v = headP v.kind v.b v.i v.text v.items.length v.keys := by
  unfold headE headP unusedP badDayP
  rfl
def headI (v : Vu) : Int := headE (setl v)
theorem headI_P (v : Vu) : headI v = headP (skind v.kind) v.b v.i v.text v.items.length v.keys := by
  unfold headI
  rw [headE_P, setl_eq]
  simp only [Vu.kind, Vu.b, Vu.i, Vu.text, Vu.items, Vu.keys, setlL_len]
theorem headP_six (b : Bool) (i : Int) (t : ByteArray) (n : Nat) (ks : List ByteArray) : headP 6 b i t n ks = if b = true ∨ i ≠ 0 ∨ t ≠ ⟨#[]⟩ ∨ ks.length ≠ n then 1 else keysFrom ks 0 := by
  unfold headP
  by_cases ht : t = ⟨#[]⟩
  · subst ht
    rw [badStr_nil, size_nil]
    grind
  · grind
theorem check_flat (k : Int) (b : Bool) (i : Int) (t : ByteArray) (n : Nat) (ks : List ByteArray) (hn : n ≤ 999) : checkE (.mk k b i t (List.replicate n .zero) ks) = headP k b i t n ks := by
  have hz : cnt .zero = 1 := by simp [Vu.zero, cnt, cntL]
  have hl0 : lvl .zero = 1 := by simp [Vu.zero, lvl, lvlL]
  have hf0 : faultE .zero = 0 := by rw [faultE_eq, headE_P]; simp [Vu.zero, headP, faultL, Vu.kind, Vu.b, Vu.i, Vu.text, Vu.items, Vu.keys, badStr_nil, size_nil, keysFrom_end]
  have h1 : ∀ n, cntL (List.replicate n .zero) = n := by
    intro n
    induction n with
    | zero => rfl
    | succ n ih => rw [List.replicate_succ, cntL, ih, hz]; omega
  have h2 : ∀ n, lvlL (List.replicate n .zero) ≤ 1 := by
    intro n
    induction n with
    | zero => simp [lvlL]
    | succ n ih => rw [List.replicate_succ, lvlL, hl0]; omega
  have h3 : ∀ n, faultL (List.replicate n .zero) = 0 := by
    intro n
    induction n with
    | zero => rfl
    | succ n ih => rw [List.replicate_succ, faultL, hf0, if_pos rfl, ih]
  unfold checkE
  rw [if_neg (by simp only [cnt, h1]; omega), if_neg (by simp only [lvl]; have := h2 n; omega), faultE, h3, headE_P]
  simp only [Vu.kind, Vu.b, Vu.i, Vu.text, Vu.items, Vu.keys, List.length_replicate]
  grind
mutual
def itemE : Vu → Int
  | .mk k b i t l ks => if headI (.mk k b i t l ks) = 0 then itemL l else headI (.mk k b i t l ks)
def itemL : List Vu → Int
  | [] => 0
  | x :: r => if itemE x = 0 then itemL r else itemE x
end
theorem itemE_eq (v : Vu) : itemE v = if headI v = 0 then itemL v.items else headI v := by cases v; simp only [itemE, Vu.items]
theorem itemL_drop {l : List Vu} {k : Nat} (h : k < l.length) : itemL (l.drop k) = if itemE (l.getD k .zero) = 0 then itemL (l.drop (k + 1)) else itemE (l.getD k .zero) := by
  rw [drop_cons l .zero k h]; simp only [itemL]
theorem itemL_end {l : List Vu} {k : Nat} (h : l.length ≤ k) : itemL (l.drop k) = 0 := by rw [List.drop_of_length_le h]; rfl
mutual
theorem item_fault : ∀ v : Vu, itemE v = faultE (setl v)
  | .mk k b i t l ks => by
    have h := item_faultL l
    rw [itemE_eq, faultE_eq]
    unfold headI
    rw [setl_eq]
    simp only [Vu.items, Vu.kind, Vu.b, Vu.i, Vu.text, Vu.keys, h]
    rfl
theorem item_faultL : ∀ l : List Vu, itemL l = faultL (setlL l)
  | [] => rfl
  | x :: r => by rw [itemL, setlL, faultL, item_fault x, item_faultL r]
end
def itemCheckE (v : Vu) : Int := if 5000 < cnt v then 4 else if 10 < lvl v then 13 else itemE v
section
variable (E : Env)
set_option maxRecDepth 100000
theorem tableFault_sp (v : Vu) (hk : v.kind = 6) : Sp (cx Tryz.prog mixed tyT_ok E) 149 [encV v] (i64 (headI v)) := by
  have hP := headI_P v
  rw [hk, show skind 6 = 6 from rfl, headP_six] at hP
  refine Sp.body Tryz.func149 (by kernel_rfl) rfl (by kernel_rfl) (by kernel_rfl) (by kernel_rfl) ?_
  repeat' first
    | (refine facW_intro ?_; intro _)
    | refine Or.inl ?_
    | ((conv => whnf); first | (refine condW_dec ?_ ?_ <;> intro _) | refine condW_not ?_ | (refine condW_bool ?_ ?_ <;> intro _) | (refine nbC_t (fun _ => ?_) ?_) | (refine nbC_f ?_ (fun _ => ?_)))
    | refine And.intro (by first | omega | (simp only [Int.toNat_natCast] at *; omega) | (simp only [Nat.reduceAdd, Int.cast_ofNat_Int, true_and, and_true]; omega)  | kernel_rfl) ?_
    | refine RegW.run ?_
    | fail
  all_goals first
    | exact Dle.i (by rw [hP]; grind)
    | skip
  all_goals
    have hR : headI v = keysFrom v.keys 0 := by
      rw [hP]
      grind
    refine ⟨Nat, fun k => [(29, i64 k)], fun k => [], [1], fun k => [], fun k => k ≤ v.keys.length ∧ headI v = keysFrom v.keys k, fun k => v.keys.length - k, ⟨0, ⟨by omega, hR⟩, ⟨[], ⟨by kernel_rfl, by kernel_rfl, by kernel_rfl, by kernel_rfl, by kernel_rfl, by kernel_rfl, by kernel_rfl⟩, (by repeat' first | exact trivial | exact rfl | kernel_rfl | exact Dle.of_eq rfl | exact MLe.of_eq rfl | exact Dle.i (by omega) | exact Dle.i (by simp only [Int.toNat_natCast] at *; omega) | exact Dle.nil | exact Dle.rc Dle.nil | exact Option.some_ne_none _ | exact Or.inl rfl | exact Or.inr trivial | omega | (simp only [Int.toNat_natCast] at *; omega) | (intro _ _ _ _; exact Dle.of_eq rfl) | refine And.intro ?_ ?_)⟩⟩, fun k hk => ?_⟩
    obtain ⟨hk, hK⟩ := hk
  repeat' first
    | (refine facW_intro ?_; intro _)
    | refine Or.inl ?_
    | ((conv => whnf); first | (refine condW_dec ?_ ?_ <;> intro _) | refine condW_not ?_ | (refine condW_bool ?_ ?_ <;> intro _) | (refine nbC_t (fun _ => ?_) ?_) | (refine nbC_f ?_ (fun _ => ?_)))
    | refine And.intro (by first | omega | (simp only [Int.toNat_natCast] at *; omega) | (simp only [Nat.reduceAdd, Int.cast_ofNat_Int, true_and, and_true]; omega)  | kernel_rfl) ?_
    | refine RegW.run ?_
    | refine ⟨_, l_isKey_sp E _, ?_⟩
    | fail
  all_goals first
    | exact Dle.i (by rw [hK, keysFrom_end (by omega)])
    | exact Dle.i (by rw [hK, keysFrom_name (by omega) (by simp only [Int.toNat_natCast] at *; first | assumption | (rw [show ((k : Int) - 1).toNat = k - 1 by omega] at *; assumption))])
    | exact Dle.i (by rw [hK, keysFrom_order (by omega) (by simp only [Int.toNat_natCast] at *; first | assumption | (rw [show ((k : Int) - 1).toNat = k - 1 by omega] at *; assumption)) (by omega) (by simp only [Int.toNat_natCast] at *; first | assumption | (rw [show ((k : Int) - 1).toNat = k - 1 by omega] at *; assumption))])
    | exact ⟨k + 1, ⟨by omega, by rw [hK, keysFrom_next0 (by omega) (by simp only [Int.toNat_natCast] at *; first | assumption | (rw [show ((k : Int) - 1).toNat = k - 1 by omega] at *; assumption)) (by omega)]⟩, ⟨[], ⟨by kernel_rfl, by kernel_rfl, by kernel_rfl, by kernel_rfl, by kernel_rfl, by kernel_rfl, by kernel_rfl⟩, (by repeat' first | exact trivial | exact rfl | kernel_rfl | exact Dle.of_eq rfl | exact MLe.of_eq rfl | exact Dle.i (by omega) | exact Dle.i (by simp only [Int.toNat_natCast] at *; omega) | exact Dle.nil | exact Dle.rc Dle.nil | exact Option.some_ne_none _ | exact Or.inl rfl | exact Or.inr trivial | omega | (simp only [Int.toNat_natCast] at *; omega) | (intro _ _ _ _; exact Dle.of_eq rfl) | refine And.intro ?_ ?_)⟩, by first | omega | (dsimp only; omega)⟩
    | exact ⟨k + 1, ⟨by omega, by rw [hK, keysFrom_next (by omega) (by simp only [Int.toNat_natCast] at *; first | assumption | (rw [show ((k : Int) - 1).toNat = k - 1 by omega] at *; assumption)) (by simp only [Int.toNat_natCast] at *; first | assumption | (rw [show ((k : Int) - 1).toNat = k - 1 by omega] at *; assumption))]⟩, ⟨[], ⟨by kernel_rfl, by kernel_rfl, by kernel_rfl, by kernel_rfl, by kernel_rfl, by kernel_rfl, by kernel_rfl⟩, (by repeat' first | exact trivial | exact rfl | kernel_rfl | exact Dle.of_eq rfl | exact MLe.of_eq rfl | exact Dle.i (by omega) | exact Dle.i (by simp only [Int.toNat_natCast] at *; omega) | exact Dle.nil | exact Dle.rc Dle.nil | exact Option.some_ne_none _ | exact Or.inl rfl | exact Or.inr trivial | omega | (simp only [Int.toNat_natCast] at *; omega) | (intro _ _ _ _; exact Dle.of_eq rfl) | refine And.intro ?_ ?_)⟩, by first | omega | (dsimp only; omega)⟩
    | trace_state
end
end Go.Proofs.YthoemnhigboahaaGreatDoor
