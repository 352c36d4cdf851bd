/-
  Keys and counts of the package list.
-/
import Derived.Test.YtphmfejengmggaaGreatDoorQ6
namespace Go.Proofs.YtphmfejengmggaaGreatDoor
open Go.RowKit
set_option linter.unusedVariables false
set_option linter.unusedSimpArgs false
mutual
/-- What a count with a limit answers. -/
def cq (m : Nat) : Vu → Nat
  | .mk _ _ _ _ l _ => cqL m l 1
def cqL (m : Nat) : List Vu → Nat → Nat
  | [], n => n
  | x :: r, n => if m < n then n else cqL m r (n + cq m x)
end
theorem cq_eq {m : Nat} (v : Vu) : cq m v = cqL m v.items 1 := by cases v; simp [cq, Vu.items]
mutual
theorem cq_cnt (m : Nat) : ∀ v : Vu, cq m v ≤ cnt v ∧ (cq m v ≤ m → cq m v = cnt v)
  | .mk _ _ _ _ l _ => by have := cqL_cnt m l 1; simp only [cq, cnt]; omega
theorem cqL_cnt (m : Nat) : ∀ (l : List Vu) (n : Nat), cqL m l n ≤ n + cntL l ∧ (cqL m l n ≤ m → cqL m l n = n + cntL l) ∧ n ≤ cqL m l n
  | [], n => by simp [cqL, cntL]
  | x :: r, n => by
    have h1 := cq_cnt m x
    have h2 := cqL_cnt m r (n + cq m x)
    simp only [cqL, cntL]
    split <;> omega
end
theorem cqL_drop {m : Nat} {l : List Vu} {k n : Nat} (h : k < l.length) : cqL m (l.drop k) n = if m < n then n else cqL m (l.drop (k + 1)) (n + cq m (l.getD k .zero)) := by
  rw [drop_cons l .zero k h]; simp only [cqL]
theorem cqL_end {m : Nat} {l : List Vu} {k n : Nat} (h : l.length ≤ k) : cqL m (l.drop k) n = n := by rw [List.drop_of_length_le h]; rfl
section
variable (E : Env)
set_option maxRecDepth 100000
theorem l_isSmall_sp (c : UInt8) : Sp (cx Tryz.prog mixed tyT_ok E) 216 [.v (.int .u8 c.toNat)] (dB (smallB c)) := by
  refine Sp.body Tryz.func216 (by kernel_rfl) rfl (by kernel_rfl) (by kernel_rfl) (by kernel_rfl) ?_
  refine condW_dec ?_ ?_
  · intro h
    exact Dle.bo (by unfold smallB; grind)
  · intro h
    exact Dle.bo (by unfold smallB; grind)
theorem l_isDigit_sp (c : UInt8) : Sp (cx Tryz.prog mixed tyT_ok E) 217 [.v (.int .u8 c.toNat)] (dB (digitB c)) := by
  refine Sp.body Tryz.func217 (by kernel_rfl) rfl (by kernel_rfl) (by kernel_rfl) (by kernel_rfl) ?_
  refine condW_dec ?_ ?_
  · intro h
    exact Dle.bo (by unfold digitB; grind)
  · intro h
    exact Dle.bo (by unfold digitB; grind)
theorem l_isKey_sp (s : ByteArray) : Sp (cx Tryz.prog mixed tyT_ok E) 118 [dS s] (dB (keyOkB s)) := by
  refine Sp.body Tryz.func118 (by kernel_rfl) rfl (by kernel_rfl) (by kernel_rfl) (by kernel_rfl) ?_
  refine Or.inl ?_
  refine condW_dec ?_ ?_ <;> intro h0
  · exact Dle.bo (by rw [keyOkB_no1 h0])
  have hp := str_pos h0
  repeat' first
    | (refine facW_intro ?_; intro _)
    | refine Or.inl ?_
    | ((conv => whnf); first | (refine condW_dec ?_ ?_ <;> intro _) | refine condW_not ?_ | (refine condW_bool ?_ ?_ <;> intro _) | (refine nbC_t (fun _ => ?_) ?_) | (refine nbC_f ?_ (fun _ => ?_)))
    | refine And.intro (by first | omega | (simp only [Int.toNat_natCast] at *; omega) | (simp only [Nat.reduceAdd, Int.cast_ofNat_Int, true_and, and_true]; omega) | kernel_rfl) ?_
    | refine RegW.run ?_
    | refine ⟨_, l_isSmall_sp E _, ?_⟩
    | fail
  · exact Dle.bo (by rw [keyOkB_no2 (by omega)])
  rotate_left
  · rename_i h
    exact Dle.bo (by rw [keyOkB_no3 h])
  rename_i hs
  refine ⟨Nat, fun k => [(3, i64 k)], fun k => [], [], fun k => [], fun k => 1 ≤ k ∧ k ≤ s.size ∧ allN k (fun k => kchB (bAt s k)) = true, fun k => s.size - k, ⟨1, ⟨by omega, by omega, allN_one rfl (by simp only [kchB, Bool.or_eq_true]; exact Or.inl (Or.inl (Or.inl hs)))⟩, ⟨[], ⟨by kernel_rfl, by kernel_rfl, by kernel_rfl, by kernel_rfl, by kernel_rfl, by kernel_rfl, by kernel_rfl⟩, (by repeat' first | exact trivial | exact rfl | kernel_rfl | exact Dle.of_eq rfl | exact MLe.of_eq rfl | exact Dle.i (by omega) | exact Dle.i (by simp only [Int.toNat_natCast] at *; omega) | exact Dle.nil | exact Dle.rc Dle.nil | exact Option.some_ne_none _ | exact Or.inl rfl | exact Or.inr trivial | omega | (simp only [Int.toNat_natCast] at *; omega) | (intro _ _ _ _; exact Dle.of_eq rfl) | refine And.intro ?_ ?_)⟩⟩, fun k hk => ?_⟩
  obtain ⟨h1, hk, hall⟩ := hk
  have hend : s.size ≤ k → keyOkB s = true := fun h => by
    obtain rfl : k = s.size := by omega
    exact keyOkB_yes hp (by omega) hs hall
  have hno : k < s.size → kchB (bAt s k) = false → keyOkB s = false := fun h e => keyOkB_no4 e h
  repeat' first
    | (refine facW_intro ?_; intro _)
    | refine Or.inl ?_
    | ((conv => whnf); first | (refine condW_dec ?_ ?_ <;> intro _) | refine condW_not ?_ | (refine condW_bool ?_ ?_ <;> intro _) | (refine nbC_t (fun _ => ?_) ?_) | (refine nbC_f ?_ (fun _ => ?_)))
    | refine And.intro (by first | omega | (simp only [Int.toNat_natCast] at *; omega) | (simp only [Nat.reduceAdd, Int.cast_ofNat_Int, true_and, and_true]; omega) | kernel_rfl) ?_
    | refine RegW.run ?_
    | refine ⟨_, l_isSmall_sp E _, ?_⟩
    | refine ⟨_, l_isDigit_sp E _, ?_⟩
    | fail
  all_goals first
    | (refine ⟨k + 1, ⟨by omega, by omega, allN_succ hall ?_⟩, ⟨[], ⟨by kernel_rfl, by kernel_rfl, by kernel_rfl, by kernel_rfl, by kernel_rfl, by kernel_rfl, by kernel_rfl⟩, (by repeat' first | exact trivial | exact rfl | kernel_rfl | exact Dle.of_eq rfl | exact MLe.of_eq rfl | exact Dle.i (by omega) | exact Dle.i (by simp only [Int.toNat_natCast] at *; omega) | exact Dle.nil | exact Dle.rc Dle.nil | exact Option.some_ne_none _ | exact Or.inl rfl | exact Or.inr trivial | omega | (simp only [Int.toNat_natCast] at *; omega) | (intro _ _ _ _; exact Dle.of_eq rfl) | refine And.intro ?_ ?_)⟩, by first | omega | (dsimp only; omega)⟩; simp only [Int.toNat_natCast] at *; simp only [kchB, Bool.or_eq_true, decide_eq_true_eq]; grind)
    | exact Dle.bo (by rw [hend (by omega)])
    | exact Dle.bo (by rw [hno (by omega) (by simp only [Int.toNat_natCast] at *; simp only [kchB, Bool.or_eq_false_iff, decide_eq_false_iff_not]; grind)])
    | trace_state
theorem l_levels_sp : ∀ (N : Nat) (v : Vu), SizeOf.sizeOf v < N → lvl v ≤ 4611686018427387904 → Sp (cx Tryz.prog mixed tyT_ok E) 313 [encV v] (i64 (lvl v))
  | 0, v, h, _ => by omega
  | N + 1, v, h, hb => by
    have ih := fun x (hx : x ∈ v.items) => l_levels_sp N x (by have := items_lt v x hx; omega) (by have := lvl_mem v.items x hx; rw [lvl_eq] at hb; omega)
    rw [lvl_eq] at hb ⊢
    refine Sp.body Tryz.func313 (by kernel_rfl) rfl (by kernel_rfl) (by kernel_rfl) (by kernel_rfl) ?_
    refine fun hlen => ?_
    refine ⟨Nat, fun k => [(3, i64 (lvlL (v.items.take k))), (9, i64 k)], fun k => [], [], fun k => [], fun k => k ≤ v.items.length, fun k => v.items.length - k, ⟨0, by omega, ⟨[], ⟨by kernel_rfl, by kernel_rfl, by kernel_rfl, by kernel_rfl, by kernel_rfl, by kernel_rfl, by kernel_rfl⟩, (by repeat' first | exact trivial | exact rfl | kernel_rfl | exact Dle.of_eq rfl | exact MLe.of_eq rfl | exact Dle.i (by omega) | exact Dle.i (by simp only [Int.toNat_natCast] at *; omega) | exact Dle.nil | exact Dle.rc Dle.nil | exact Option.some_ne_none _ | exact Or.inl rfl | exact Or.inr trivial | omega | (simp only [Int.toNat_natCast] at *; omega) | (intro _ _ _ _; exact Dle.of_eq rfl) | refine And.intro ?_ ?_)⟩⟩, fun k hk => ?_⟩
    refine Or.inl ?_
    refine condW_dec ?_ ?_
    · intro hlt
      have hlt : k < v.items.length := by omega
      refine ⟨by omega, ?_⟩
      refine Or.inl ⟨_, ih _ (getD_mem v.items .zero k hlt), ?_⟩
      refine ⟨by omega, ?_⟩
      have e1 : lvlL (v.items.take (k + 1)) = max (lvlL (v.items.take k)) (lvl (v.items.getD k .zero)) := by rw [take_snoc v.items .zero k hlt, lvlL_app]
      exact ⟨k + 1, hlt, ⟨[], ⟨by kernel_rfl, by kernel_rfl, by kernel_rfl, by kernel_rfl, by kernel_rfl, by kernel_rfl, by kernel_rfl⟩, (by repeat' first | exact trivial | exact rfl | kernel_rfl | exact Dle.of_eq rfl | exact MLe.of_eq rfl | exact Dle.i (by omega) | exact Dle.i (by simp only [Int.toNat_natCast] at *; omega) | exact Dle.nil | exact Dle.rc Dle.nil | exact Option.some_ne_none _ | exact Or.inl rfl | exact Or.inr trivial | omega | (simp only [Int.toNat_natCast] at *; omega) | (intro _ _ _ _; exact Dle.of_eq rfl) | refine And.intro ?_ ?_)⟩, by first | omega | (dsimp only; omega)⟩
    · intro hge
      have : k = v.items.length := by omega
      subst this
      have e : v.items.take v.items.length = v.items := List.take_length
      refine ⟨by rw [e]; omega, ?_⟩
      exact Dle.i (by rw [e]; omega)
theorem l_count_sp : ∀ (N : Nat) (v : Vu), SizeOf.sizeOf v < N → cnt v ≤ 4611686018427387904 → Sp (cx Tryz.prog mixed tyT_ok E) 312 [encV v] (i64 (cq 5000 v))
  | 0, v, h, _ => by omega
  | N + 1, v, h, hb => by
    have ih := fun x (hx : x ∈ v.items) => l_count_sp N x (by have := items_lt v x hx; omega) (by have := cnt_mem v.items x hx; rw [cnt_eq] at hb; omega)
    rw [cnt_eq] at hb
    refine Sp.body Tryz.func312 (by kernel_rfl) rfl (by kernel_rfl) (by kernel_rfl) (by kernel_rfl) ?_
    refine fun hlen => ?_
    refine ⟨Nat × Nat, fun k => [(3, i64 k.2), (9, i64 k.1)], fun k => [], [], fun k => [], fun k => k.1 ≤ v.items.length ∧ cq 5000 v = cqL 5000 (v.items.drop k.1) k.2, fun k => v.items.length - k.1, ⟨(0, 1), ⟨by omega, by rw [cq_eq]; rfl⟩, ⟨[], ⟨by kernel_rfl, by kernel_rfl, by kernel_rfl, by kernel_rfl, by kernel_rfl, by kernel_rfl, by kernel_rfl⟩, (by repeat' first | exact trivial | exact rfl | kernel_rfl | exact Dle.of_eq rfl | exact MLe.of_eq rfl | exact Dle.i (by omega) | exact Dle.i (by simp only [Int.toNat_natCast] at *; omega) | exact Dle.nil | exact Dle.rc Dle.nil | exact Option.some_ne_none _ | exact Or.inl rfl | exact Or.inr trivial | omega | (simp only [Int.toNat_natCast] at *; omega) | (intro _ _ _ _; exact Dle.of_eq rfl) | refine And.intro ?_ ?_)⟩⟩, fun k hk => ?_⟩
    obtain ⟨k, n⟩ := k
    obtain ⟨hk, hK⟩ := hk
    dsimp only at hk hK
    refine Or.inl ?_
    refine condW_dec ?_ ?_
    · intro hlt
      have hlt : k < v.items.length := by dsimp only at hlt; omega
      repeat' first
        | (refine facW_intro ?_; intro _)
        | refine Or.inl ?_
        | ((conv => whnf); first | (refine condW_dec ?_ ?_ <;> intro _) | refine condW_not ?_ | (refine condW_bool ?_ ?_ <;> intro _) | (refine nbC_t (fun _ => ?_) ?_) | (refine nbC_f ?_ (fun _ => ?_)))
        | refine And.intro (by first | omega | (simp only [Int.toNat_natCast] at *; omega) | (simp only [Nat.reduceAdd, Int.cast_ofNat_Int, true_and, and_true]; omega) | kernel_rfl) ?_
        | refine RegW.run ?_
        | fail
      · exact Dle.i (by rw [hK, cqL_drop hlt, if_pos (by omega)])
      · refine ⟨_, ih _ (getD_mem v.items .zero k hlt), ?_⟩
        have h1 := (cq_cnt 5000 (v.items.getD k .zero)).1
        have h2 := cnt_mem v.items _ (getD_mem v.items .zero k hlt)
        repeat' first
          | (refine facW_intro ?_; intro _)
          | refine Or.inl ?_
          | ((conv => whnf); first | (refine condW_dec ?_ ?_ <;> intro _) | refine condW_not ?_ | (refine condW_bool ?_ ?_ <;> intro _) | (refine nbC_t (fun _ => ?_) ?_) | (refine nbC_f ?_ (fun _ => ?_)))
          | refine And.intro (by first | omega | (simp only [Int.toNat_natCast] at *; omega) | (simp only [Nat.reduceAdd, Int.cast_ofNat_Int, true_and, and_true]; omega) | kernel_rfl) ?_
          | refine RegW.run ?_
          | fail
        exact ⟨(k + 1, n + cq 5000 (v.items.getD k .zero)), ⟨by dsimp only; omega, by dsimp only; rw [hK, cqL_drop hlt, if_neg (by dsimp only at *; omega)]⟩, ⟨[], ⟨by kernel_rfl, by kernel_rfl, by kernel_rfl, by kernel_rfl, by kernel_rfl, by kernel_rfl, by kernel_rfl⟩, (by repeat' first | exact trivial | exact rfl | kernel_rfl | exact Dle.of_eq rfl | exact MLe.of_eq rfl | exact Dle.i (by omega) | exact Dle.i (by simp only [Int.toNat_natCast] at *; omega) | exact Dle.nil | exact Dle.rc Dle.nil | exact Option.some_ne_none _ | exact Or.inl rfl | exact Or.inr trivial | omega | (simp only [Int.toNat_natCast] at *; omega) | (intro _ _ _ _; exact Dle.of_eq rfl) | refine And.intro ?_ ?_)⟩, by first | omega | (dsimp only; omega)⟩
    · intro hge
      repeat' first
        | (refine facW_intro ?_; intro _)
        | refine Or.inl ?_
        | ((conv => whnf); first | (refine condW_dec ?_ ?_ <;> intro _) | refine condW_not ?_ | (refine condW_bool ?_ ?_ <;> intro _) | (refine nbC_t (fun _ => ?_) ?_) | (refine nbC_f ?_ (fun _ => ?_)))
        | refine And.intro (by first | omega | (simp only [Int.toNat_natCast] at *; omega) | (simp only [Nat.reduceAdd, Int.cast_ofNat_Int, true_and, and_true]; omega) | kernel_rfl) ?_
        | refine RegW.run ?_
        | fail
      exact Dle.i (by rw [hK, cqL_end (by dsimp only at *; omega)])
end
end Go.Proofs.YtphmfejengmggaaGreatDoor
