/-
  Sums: bits.Add64; list.Sum, the reference's SumOf.
-/
import Derived.Test.YtnealjgndobknaaGreatDoorU6
import Derived.Laws.Externs
namespace Go.Proofs.YtnealjgndobknaaGreatDoor
open Go.RowKit
set_option linter.unusedVariables false
set_option linter.unusedSimpArgs false
/-- The rounds of a sum: high and low half. -/
def sumStep (q : Int × Int) (v : Vu) : Int × Int :=
  if v.kind = 2 then (q.1 + (q.2 + IntKind.u64.wrap v.i) / 18446744073709551616 + v.i.fdiv (2 ^ 63), (q.2 + IntKind.u64.wrap v.i) % 18446744073709551616) else q
def sumQ : List Vu → Int × Int → Int × Int
  | [], q => q
  | v :: r, q => sumQ r (sumStep q v)
theorem sumQ_drop {l : List Vu} {k : Nat} {q : Int × Int} (h : k < l.length) : sumQ (l.drop k) q = sumQ (l.drop (k + 1)) (sumStep q (l.getD k .zero)) := by
  rw [drop_cons l .zero k h]; rfl
theorem sumQ_end {l : List Vu} {k : Nat} {q : Int × Int} (h : l.length ≤ k) : sumQ (l.drop k) q = q := by rw [List.drop_of_length_le h]; rfl
theorem len_le_wtM : ∀ l : List Vu, l.length ≤ Vu.wtL l
  | [] => Nat.zero_le _
  | x :: r => by
    have := len_le_wtM r
    have := cnt_le_wt x
    have h : 1 ≤ cnt x := by rw [cnt_eq]; omega
    simp only [List.length_cons, Vu.wtL]
    omega
section
variable (E : Env)
set_option maxRecDepth 100000
theorem add64_sp (x y : Int) (hx : 0 ≤ x) (hy : 0 ≤ y) : Sp (cx Tryz.prog mixed tyT_ok E) 20 [.v (.int .u64 x), .v (.int .u64 y), .v (.int .u64 0)] (.tup [.v (.int .u64 ((x + y) % 18446744073709551616)), .v (.int .u64 ((x + y) / 18446744073709551616))]) := by
  refine .inr fun M β w vs hn hr => ?_
  have h0 := (hr 0 _ rfl).val
  have h1 := (hr 1 _ rfl).val
  have h2 := (hr 2 _ rfl).val
  have e : vs = #[.int .u64 x, .int .u64 y, .int .u64 0] := by
    apply Array.ext
    · simpa using hn
    · intro i hi1 hi2
      have hn : vs.size = 3 := by simpa using hn
      have g := fun (j : Nat) (hj : j < vs.size) => show vs.getD j undef = vs[j] by simp [Array.getD, hj]
      match i, hi1, hi2 with
      | 0, hi1, _ => rw [← g 0 hi1]; exact h0.1
      | 1, hi1, _ => rw [← g 1 hi1]; exact h1.1
      | 2, hi1, _ => rw [← g 2 hi1]; exact h2.1
      | i + 3, hi1, _ => omega
  rw [e]
  have hrun : (callFunc 20 #[.int .u64 x, .int .u64 y, .int .u64 0]).run Tryz.prog w = .ok (.value (.tuple #[.int .u64 ((x + y + 0) % 18446744073709551616), .int .u64 ((x + y + 0) / 18446744073709551616)])) w := by
    rw [run_callFunc_extern Tryz.func20 (by kernel_rfl) (by kernel_rfl) (by kernel_rfl) (e := add64Entry) (by kernel_rfl), run_add64 x y 0 hx hy (by omega) (by omega)]
    rfl
  rw [Int.add_zero] at hrun
  refine ⟨_, hrun, .tup rfl (fun i d hi => ?_)⟩
  match i, hi with
  | 0, hi =>
    obtain rfl : _ = d := by simpa using hi
    exact .v rfl
  | 1, hi =>
    obtain rfl : _ = d := by simpa using hi
    exact .v rfl
theorem u64_range (n : Int) : 0 ≤ IntKind.u64.wrap n ∧ IntKind.u64.wrap n < 18446744073709551616 := by
  simp only [IntKind.wrap, IntKind.bits, IntKind.signed]
  simp
  omega
theorem i64_same (n : Int) (h : -9223372036854775808 ≤ n) (h2 : n ≤ 9223372036854775807) : IntKind.i64.wrap n = n := by
  simp only [IntKind.wrap, IntKind.bits, IntKind.signed]
  simp
  split <;> omega
theorem i64_range (n : Int) : -9223372036854775808 ≤ IntKind.i64.wrap n ∧ IntKind.i64.wrap n ≤ 9223372036854775807 := by
  simp only [IntKind.wrap, IntKind.bits, IntKind.signed]
  simp
  split <;> omega
theorem top_range (n : Int) (h : -9223372036854775808 ≤ n) (h2 : n ≤ 9223372036854775807) : -1 ≤ n.fdiv (2 ^ 63) ∧ n.fdiv (2 ^ 63) ≤ 0 := by
  rw [Int.fdiv_eq_ediv_of_nonneg _ (by decide)]
  have : (2 : Int) ^ 63 = 9223372036854775808 := by decide
  rw [this]
  omega
/-- What a sum says in the end. -/
def sumR (q : Int × Int) : Int × Int := if q.1 = (IntKind.i64.wrap q.2).fdiv (2 ^ 63) then (IntKind.i64.wrap q.2, 0) else (0, 2)
def sumE (l : List Vu) (s : ByteArray) : Int × Int := if routeE l s ≠ 0 then (0, routeE l s) else sumR (sumQ (l.map fun v => hasR v s) (0, 0))
theorem i64_mem : ∀ (l : List Vu), Vu.i64L l → ∀ x ∈ l, x.i64
  | a :: l, h, x, hx => by
    rcases List.mem_cons.1 hx with rfl | hx
    · exact h.1
    · exact i64_mem l h.2 x hx
theorem i64_items {v : Vu} (h : v.i64) : In64 v.i ∧ Vu.i64L v.items := by
  cases v with | mk k b i t l ks => exact ⟨h.2.1, h.2.2⟩
theorem i64_zero : Vu.i64 .zero := ⟨⟨by decide, by decide⟩, ⟨by decide, by decide⟩, trivial⟩
theorem i64_next {v : Vu} {p : ByteArray} (h : v.i64) : (nextV v p).i64 := by
  unfold nextV followP
  split
  · exact i64_zero
  · show (v.items.getD _ .zero).i64
    rw [List.getD]
    cases e : v.items[(stepR v p).toNat]? with
    | none => exact i64_zero
    | some x => exact i64_mem _ (i64_items h).2 _ (List.mem_of_getElem? e)
theorem i64_at : ∀ (l : List ByteArray) (v : Vu), v.i64 → (atP l v).i64
  | [], _, h => h
  | p :: r, v, h => i64_at r _ (i64_next h)
theorem i64_has {v : Vu} {s : ByteArray} (h : v.i64) : (hasR v s).i64 := i64_at _ _ h
theorem i64_in {v : Vu} (h : v.i64) : -9223372036854775808 ≤ v.i ∧ v.i ≤ 9223372036854775807 := (i64_items h).1
theorem sumStep_no {q : Int × Int} {v : Vu} (h : ¬ v.kind = 2) : sumStep q v = q := if_neg h
theorem sumStep_yes {q : Int × Int} {v : Vu} (h : v.kind = 2) : sumStep q v = (q.1 + (q.2 + IntKind.u64.wrap v.i) / 18446744073709551616 + v.i.fdiv (2 ^ 63), (q.2 + IntKind.u64.wrap v.i) % 18446744073709551616) := if_pos h
set_option maxHeartbeats 4000000 in
theorem sum_sp (l : List Vu) (s : ByteArray) (hw : Vu.wtL l ≤ 100000000) (hs : s.size ≤ 1000000000) (hi : Vu.i64L l) : Sp (cx Tryz.prog mixed tyT_ok E) 6 [.rc (.vals l), dS s] (.tup [i64 (sumE l s).1, i64 (sumE l s).2]) := by
  have h1 := routed_sp E l s hw hs
  have hok := @routeE_ok l s
  have hlen : l.length ≤ 100000000 := by have := len_le_wtM l; omega
  unfold sumE
  generalize routeE l s = e at h1 hok
  refine Sp.body Tryz.func6 (by kernel_rfl) rfl (by kernel_rfl) (by kernel_rfl) (by kernel_rfl) ?_
  repeat' first
    | (refine facW_intro ?_; intro _)
    | refine Or.inl ?_
    | ((conv => whnf); first | (refine condW_dec ?_ ?_ <;> intro _) | refine condW_not ?_ | (refine condW_bool ?_ ?_ <;> intro _))
    | refine And.intro (by first | omega | (simp only [Int.toNat_natCast] at *; omega) | (simp only [Nat.reduceAdd, Int.cast_ofNat_Int, true_and, and_true]; omega) | kernel_rfl) ?_
    | refine RegW.run ?_
    | refine ⟨_, h1, ?_⟩
    | fail
  rotate_left
  · rename_i h
    rw [if_pos h]
    exact Dle.refl _ _
  · rename_i h
    rw [if_neg (show ¬ (e ≠ 0) from fun h2 => h2 h)]
    have hh := had_sp E l s (hok h).1 hs (by omega)
    have hi64 : ∀ x ∈ l.map (fun v => hasR v s), x.i64 := by
      intro x hx
      obtain ⟨v, hv, rfl⟩ := List.mem_map.1 hx
      exact i64_has (i64_mem l hi v hv)
    have hml : (l.map fun v => hasR v s).length = l.length := by simp
    generalize (l.map fun v => hasR v s) = m at hh hi64 hml
    repeat' first
      | (refine facW_intro ?_; intro _)
      | refine Or.inl ?_
      | ((conv => whnf); first | (refine condW_dec ?_ ?_ <;> intro _) | refine condW_not ?_ | (refine condW_bool ?_ ?_ <;> intro _))
      | refine And.intro (by first | omega | (simp only [Int.toNat_natCast] at *; omega) | (simp only [Nat.reduceAdd, Int.cast_ofNat_Int, true_and, and_true]; omega) | kernel_rfl) ?_
      | refine RegW.run ?_
      | refine ⟨_, hh, ?_⟩
      | fail
    obtain ⟨o, ho⟩ : ∃ o, o = sumQ m (0, 0) := ⟨_, rfl⟩
    rw [← ho]
    refine ⟨Nat × Int × Int, fun k => [(23, i64 k.1), (7, i64 k.2.1), (8, .v (.int .u64 k.2.2))], fun k => [], [], fun k => [], fun k => k.1 ≤ m.length ∧ -(k.1 : Int) ≤ k.2.1 ∧ k.2.1 ≤ k.1 ∧ 0 ≤ k.2.2 ∧ k.2.2 < 18446744073709551616 ∧ o = sumQ (m.drop k.1) k.2, fun k => m.length - k.1, ⟨(0, 0, 0), ⟨by omega, by decide, by decide, by decide, by decide, ho⟩, ⟨[], ⟨by kernel_rfl, by kernel_rfl, by kernel_rfl, by kernel_rfl, by kernel_rfl, by kernel_rfl, by kernel_rfl⟩, (by repeat' first | exact trivial | exact rfl | kernel_rfl | exact Dle.of_eq rfl | exact Dle.i (by omega) | exact Dle.i (by simp only [Int.toNat_natCast] at *; omega) | exact Dle.nil | exact Dle.rc Dle.nil | exact Option.some_ne_none _ | exact Or.inl rfl | exact Or.inr trivial | omega | (simp only [Int.toNat_natCast] at *; omega) | (intro _ _ _ _; exact Dle.of_eq rfl) | refine And.intro ?_ ?_)⟩⟩, fun k hk => ?_⟩
    obtain ⟨g1, g2, g3, g4, g5, g6⟩ := hk
    by_cases hlt : k.1 < m.length
    · rw [sumQ_drop hlt] at g6
      have hx := i64_in (hi64 _ (getD_mem m .zero k.1 hlt))
      have hx : -9223372036854775808 ≤ (m.getD ((k.1 : Int)).toNat .zero).i ∧ (m.getD ((k.1 : Int)).toNat .zero).i ≤ 9223372036854775807 := hx
      have g6 : o = sumQ (m.drop (k.1 + 1)) (sumStep k.2 (m.getD ((k.1 : Int)).toNat .zero)) := g6
      have u1 := u64_range (m.getD ((k.1 : Int)).toNat .zero).i
      have t1 : -1 ≤ (m.getD ((k.1 : Int)).toNat .zero).i.fdiv (2 ^ min (Int.toNat 63) IntKind.i64.bits) ∧ (m.getD ((k.1 : Int)).toNat .zero).i.fdiv (2 ^ min (Int.toNat 63) IntKind.i64.bits) ≤ 0 := top_range _ hx.1 hx.2
      have c1 : IntKind.i64.wrap ((k.2.2 + IntKind.u64.wrap (m.getD ((k.1 : Int)).toNat .zero).i) / 18446744073709551616) = (k.2.2 + IntKind.u64.wrap (m.getD ((k.1 : Int)).toNat .zero).i) / 18446744073709551616 := i64_same _ (by omega) (by omega)
      have c2 : 0 ≤ (k.2.2 + IntKind.u64.wrap (m.getD ((k.1 : Int)).toNat .zero).i) / 18446744073709551616 ∧ (k.2.2 + IntKind.u64.wrap (m.getD ((k.1 : Int)).toNat .zero).i) / 18446744073709551616 ≤ 1 := by omega
      repeat' first
        | (refine facW_intro ?_; intro _)
        | refine Or.inl ?_
        | ((conv => whnf); first | (refine condW_dec ?_ ?_ <;> intro _ <;> try (exfalso; omega)) | refine condW_not ?_ | (refine condW_bool ?_ ?_ <;> intro _ <;> try (exfalso; omega)))
        | refine And.intro (by first | omega | (simp only [Int.toNat_natCast] at *; omega) | (simp only [Nat.reduceAdd, Int.cast_ofNat_Int, true_and, and_true]; omega) | kernel_rfl) ?_
        | refine RegW.run ?_
        | refine ⟨_, add64_sp E _ _ g4 (u64_range _).1, ?_⟩
        | fail
      · rename_i h
        have g7 : o = sumQ (m.drop (k.1 + 1)) (k.2.1 + (k.2.2 + IntKind.u64.wrap (m.getD ((k.1 : Int)).toNat .zero).i) / 18446744073709551616 + (m.getD ((k.1 : Int)).toNat .zero).i.fdiv (2 ^ min (Int.toNat 63) IntKind.i64.bits), (k.2.2 + IntKind.u64.wrap (m.getD ((k.1 : Int)).toNat .zero).i) % 18446744073709551616) := by rw [g6, sumStep_yes h]; rfl
        exact ⟨(k.1 + 1, k.2.1 + (k.2.2 + IntKind.u64.wrap (m.getD ((k.1 : Int)).toNat .zero).i) / 18446744073709551616 + (m.getD ((k.1 : Int)).toNat .zero).i.fdiv (2 ^ min (Int.toNat 63) IntKind.i64.bits), (k.2.2 + IntKind.u64.wrap (m.getD ((k.1 : Int)).toNat .zero).i) % 18446744073709551616), ⟨by dsimp only; omega, by dsimp only; omega, by dsimp only; omega, by dsimp only; omega, by dsimp only; omega, g7⟩, ⟨[], ⟨by kernel_rfl, by kernel_rfl, by kernel_rfl, by kernel_rfl, by kernel_rfl, by kernel_rfl, by kernel_rfl⟩, (by repeat' first | exact trivial | exact rfl | kernel_rfl | exact Dle.of_eq rfl | exact Dle.i (by omega) | exact Dle.i (by simp only [Int.toNat_natCast] at *; omega) | exact Dle.nil | exact Dle.rc Dle.nil | exact Option.some_ne_none _ | exact Or.inl rfl | exact Or.inr trivial | omega | (simp only [Int.toNat_natCast] at *; omega) | (intro _ _ _ _; exact Dle.of_eq rfl) | refine And.intro ?_ ?_)⟩, by first | omega | (dsimp only; omega)⟩
      · rename_i h
        exact ⟨(k.1 + 1, k.2), ⟨by dsimp only; omega, by dsimp only; omega, by dsimp only; omega, g4, g5, by rw [g6, sumStep_no h]⟩, ⟨[], ⟨by kernel_rfl, by kernel_rfl, by kernel_rfl, by kernel_rfl, by kernel_rfl, by kernel_rfl, by kernel_rfl⟩, (by repeat' first | exact trivial | exact rfl | kernel_rfl | exact Dle.of_eq rfl | exact Dle.i (by omega) | exact Dle.i (by simp only [Int.toNat_natCast] at *; omega) | exact Dle.nil | exact Dle.rc Dle.nil | exact Option.some_ne_none _ | exact Or.inl rfl | exact Or.inr trivial | omega | (simp only [Int.toNat_natCast] at *; omega) | (intro _ _ _ _; exact Dle.of_eq rfl) | refine And.intro ?_ ?_)⟩, by first | omega | (dsimp only; omega)⟩
    · have h5 := sumQ_end (l := m) (k := k.1) (q := k.2) (by omega)
      rw [h5] at g6
      rw [g6]
      have t1 := top_range (IntKind.i64.wrap k.2.2) (i64_range _).1 (i64_range _).2
      unfold sumR
      repeat' first
        | (refine facW_intro ?_; intro _)
        | refine Or.inl ?_
        | ((conv => whnf); first | (refine condW_dec ?_ ?_ <;> intro _ <;> try (exfalso; omega)) | refine condW_not ?_ | (refine condW_bool ?_ ?_ <;> intro _ <;> try (exfalso; omega)))
        | refine And.intro (by first | omega | (simp only [Int.toNat_natCast] at *; omega) | (simp only [Nat.reduceAdd, Int.cast_ofNat_Int, true_and, and_true]; omega) | kernel_rfl) ?_
        | refine RegW.run ?_
        | fail
      · rename_i h
        have h : k.2.1 = (IntKind.i64.wrap k.2.2).fdiv (2 ^ 63) := h
        rw [if_pos h]
        exact Dle.refl _ _
      · rename_i h
        have h : ¬ k.2.1 = (IntKind.i64.wrap k.2.2).fdiv (2 ^ 63) := h
        rw [if_neg h]
        exact Dle.refl _ _
set_option maxHeartbeats 4000000 in
theorem sumOf_sp (hML : ∀ w, E.G w → ML w) (l : List Vu) (s : ByteArray) (hw : Vu.wtL l ≤ 100000000) (hs : s.size ≤ 1000000000) (hi : Vu.i64L l) : Sp (cx Tryz.prog mixed tyT_ok E) 7 [.rc (.vals l), dS s] (.tup [i64 (sumE l s).1, i64 (sumE l s).2]) := by
  have h1 := refRouteFault_sp E hML l s hw hs
  have hok := @routeE_ok l s
  have hlen : l.length ≤ 100000000 := by have := len_le_wtM l; omega
  unfold sumE
  generalize routeE l s = e at h1 hok
  refine Sp.body Tryz.func7 (by kernel_rfl) rfl (by kernel_rfl) (by kernel_rfl) (by kernel_rfl) ?_
  repeat' first
    | (refine facW_intro ?_; intro _)
    | refine Or.inl ?_
    | ((conv => whnf); first | (refine condW_dec ?_ ?_ <;> intro _) | refine condW_not ?_ | (refine condW_bool ?_ ?_ <;> intro _))
    | refine And.intro (by first | omega | (simp only [Int.toNat_natCast] at *; omega) | (simp only [Nat.reduceAdd, Int.cast_ofNat_Int, true_and, and_true]; omega) | kernel_rfl) ?_
    | refine RegW.run ?_
    | refine ⟨_, h1, ?_⟩
    | fail
  rotate_left
  · rename_i h
    rw [if_pos h]
    exact Dle.refl _ _
  · have h : e = 0 := by assumption
    rw [if_neg (show ¬ (e ≠ 0) from fun h2 => h2 h)]
    have hit := (hok h).1
    have hX : ∀ k, k < l.length → (l.map fun v => hasR v s).getD k .zero = hasR (l.getD k .zero) s := fun k hk => by simp [List.getD, hk]
    have hml : (l.map fun v => hasR v s).length = l.length := by simp
    generalize (l.map fun v => hasR v s) = m at hX hml
    repeat' first
      | (refine facW_intro ?_; intro _)
      | refine Or.inl ?_
      | ((conv => whnf); first | (refine condW_dec ?_ ?_ <;> intro _) | refine condW_not ?_ | (refine condW_bool ?_ ?_ <;> intro _))
      | refine And.intro (by first | omega | (simp only [Int.toNat_natCast] at *; omega) | (simp only [Nat.reduceAdd, Int.cast_ofNat_Int, true_and, and_true]; omega) | kernel_rfl) ?_
      | refine RegW.run ?_
      | fail
    obtain ⟨o, ho⟩ : ∃ o, o = sumQ m (0, 0) := ⟨_, rfl⟩
    rw [← ho]
    refine ⟨Nat × Int × Int, fun k => [(22, i64 k.1), (7, i64 k.2.1), (8, .v (.int .u64 k.2.2))], fun k => [], [], fun k => [], fun k => k.1 ≤ m.length ∧ -(k.1 : Int) ≤ k.2.1 ∧ k.2.1 ≤ k.1 ∧ 0 ≤ k.2.2 ∧ k.2.2 < 18446744073709551616 ∧ o = sumQ (m.drop k.1) k.2, fun k => m.length - k.1, ⟨(0, 0, 0), ⟨by omega, by decide, by decide, by decide, by decide, ho⟩, ⟨[], ⟨by kernel_rfl, by kernel_rfl, by kernel_rfl, by kernel_rfl, by kernel_rfl, by kernel_rfl, by kernel_rfl⟩, (by repeat' first | exact trivial | exact rfl | kernel_rfl | exact Dle.of_eq rfl | exact Dle.i (by omega) | exact Dle.i (by simp only [Int.toNat_natCast] at *; omega) | exact Dle.nil | exact Dle.rc Dle.nil | exact Option.some_ne_none _ | exact Or.inl rfl | exact Or.inr trivial | omega | (simp only [Int.toNat_natCast] at *; omega) | (intro _ _ _ _; exact Dle.of_eq rfl) | refine And.intro ?_ ?_)⟩⟩, fun k hk => ?_⟩
    obtain ⟨g1, g2, g3, g4, g5, g6⟩ := hk
    by_cases hlt : k.1 < m.length
    · rw [sumQ_drop hlt] at g6
      have hl : k.1 < l.length := by omega
      rw [hX _ hl] at g6
      have hx := i64_in (i64_has (s := s) (i64_mem l hi _ (getD_mem l .zero k.1 hl)))
      have hat := hasAt_sp E hML (l.getD ((k.1 : Int)).toNat .zero) s (hit _ (getD_mem l .zero k.1 hl)) hs
      have hx : -9223372036854775808 ≤ (hasR (l.getD ((k.1 : Int)).toNat .zero) s).i ∧ (hasR (l.getD ((k.1 : Int)).toNat .zero) s).i ≤ 9223372036854775807 := hx
      have g6 : o = sumQ (m.drop (k.1 + 1)) (sumStep k.2 (hasR (l.getD ((k.1 : Int)).toNat .zero) s)) := g6
      have u1 := u64_range (hasR (l.getD ((k.1 : Int)).toNat .zero) s).i
      have t1 : -1 ≤ (hasR (l.getD ((k.1 : Int)).toNat .zero) s).i.fdiv (2 ^ min (Int.toNat 63) IntKind.i64.bits) ∧ (hasR (l.getD ((k.1 : Int)).toNat .zero) s).i.fdiv (2 ^ min (Int.toNat 63) IntKind.i64.bits) ≤ 0 := top_range _ hx.1 hx.2
      have c1 : IntKind.i64.wrap ((k.2.2 + IntKind.u64.wrap (hasR (l.getD ((k.1 : Int)).toNat .zero) s).i) / 18446744073709551616) = (k.2.2 + IntKind.u64.wrap (hasR (l.getD ((k.1 : Int)).toNat .zero) s).i) / 18446744073709551616 := i64_same _ (by omega) (by omega)
      have c2 : 0 ≤ (k.2.2 + IntKind.u64.wrap (hasR (l.getD ((k.1 : Int)).toNat .zero) s).i) / 18446744073709551616 ∧ (k.2.2 + IntKind.u64.wrap (hasR (l.getD ((k.1 : Int)).toNat .zero) s).i) / 18446744073709551616 ≤ 1 := by omega
      repeat' first
        | (refine facW_intro ?_; intro _)
        | refine Or.inl ?_
        | ((conv => whnf); first | (refine condW_dec ?_ ?_ <;> intro _ <;> try (exfalso; omega)) | refine condW_not ?_ | (refine condW_bool ?_ ?_ <;> intro _ <;> try (exfalso; omega)))
        | refine And.intro (by first | omega | (simp only [Int.toNat_natCast] at *; omega) | (simp only [Nat.reduceAdd, Int.cast_ofNat_Int, true_and, and_true]; omega) | kernel_rfl) ?_
        | refine RegW.run ?_
        | refine ⟨_, add64_sp E _ _ g4 (u64_range _).1, ?_⟩
        | refine ⟨_, hat, ?_⟩
        | fail
      · rename_i h
        have g7 : o = sumQ (m.drop (k.1 + 1)) (k.2.1 + (k.2.2 + IntKind.u64.wrap (hasR (l.getD ((k.1 : Int)).toNat .zero) s).i) / 18446744073709551616 + (hasR (l.getD ((k.1 : Int)).toNat .zero) s).i.fdiv (2 ^ min (Int.toNat 63) IntKind.i64.bits), (k.2.2 + IntKind.u64.wrap (hasR (l.getD ((k.1 : Int)).toNat .zero) s).i) % 18446744073709551616) := by rw [g6, sumStep_yes h]; rfl
        exact ⟨(k.1 + 1, k.2.1 + (k.2.2 + IntKind.u64.wrap (hasR (l.getD ((k.1 : Int)).toNat .zero) s).i) / 18446744073709551616 + (hasR (l.getD ((k.1 : Int)).toNat .zero) s).i.fdiv (2 ^ min (Int.toNat 63) IntKind.i64.bits), (k.2.2 + IntKind.u64.wrap (hasR (l.getD ((k.1 : Int)).toNat .zero) s).i) % 18446744073709551616), ⟨by dsimp only; omega, by dsimp only; omega, by dsimp only; omega, by dsimp only; omega, by dsimp only; omega, g7⟩, ⟨[], ⟨by kernel_rfl, by kernel_rfl, by kernel_rfl, by kernel_rfl, by kernel_rfl, by kernel_rfl, by kernel_rfl⟩, (by repeat' first | exact trivial | exact rfl | kernel_rfl | exact Dle.of_eq rfl | exact Dle.i (by omega) | exact Dle.i (by simp only [Int.toNat_natCast] at *; omega) | exact Dle.nil | exact Dle.rc Dle.nil | exact Option.some_ne_none _ | exact Or.inl rfl | exact Or.inr trivial | omega | (simp only [Int.toNat_natCast] at *; omega) | (intro _ _ _ _; exact Dle.of_eq rfl) | refine And.intro ?_ ?_)⟩, by first | omega | (dsimp only; omega)⟩
      · rename_i h
        exact ⟨(k.1 + 1, k.2), ⟨by dsimp only; omega, by dsimp only; omega, by dsimp only; omega, g4, g5, by rw [g6, sumStep_no h]⟩, ⟨[], ⟨by kernel_rfl, by kernel_rfl, by kernel_rfl, by kernel_rfl, by kernel_rfl, by kernel_rfl, by kernel_rfl⟩, (by repeat' first | exact trivial | exact rfl | kernel_rfl | exact Dle.of_eq rfl | exact Dle.i (by omega) | exact Dle.i (by simp only [Int.toNat_natCast] at *; omega) | exact Dle.nil | exact Dle.rc Dle.nil | exact Option.some_ne_none _ | exact Or.inl rfl | exact Or.inr trivial | omega | (simp only [Int.toNat_natCast] at *; omega) | (intro _ _ _ _; exact Dle.of_eq rfl) | refine And.intro ?_ ?_)⟩, by first | omega | (dsimp only; omega)⟩
    · have h5 := sumQ_end (l := m) (k := k.1) (q := k.2) (by omega)
      rw [h5] at g6
      rw [g6]
      have t1 := top_range (IntKind.i64.wrap k.2.2) (i64_range _).1 (i64_range _).2
      unfold sumR
      repeat' first
        | (refine facW_intro ?_; intro _)
        | refine Or.inl ?_
        | ((conv => whnf); first | (refine condW_dec ?_ ?_ <;> intro _ <;> try (exfalso; omega)) | refine condW_not ?_ | (refine condW_bool ?_ ?_ <;> intro _ <;> try (exfalso; omega)))
        | refine And.intro (by first | omega | (simp only [Int.toNat_natCast] at *; omega) | (simp only [Nat.reduceAdd, Int.cast_ofNat_Int, true_and, and_true]; omega) | kernel_rfl) ?_
        | refine RegW.run ?_
        | fail
      · rename_i h
        have h : k.2.1 = (IntKind.i64.wrap k.2.2).fdiv (2 ^ 63) := h
        rw [if_pos h]
        exact Dle.refl _ _
      · rename_i h
        have h : ¬ k.2.1 = (IntKind.i64.wrap k.2.2).fdiv (2 ^ 63) := h
        rw [if_neg h]
        exact Dle.refl _ _
end
end Go.Proofs.YtnealjgndobknaaGreatDoor
