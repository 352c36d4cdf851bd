/-
  Sources of a tree: settings of wrong kinds, by the program and by data.
-/
import Derived.Test.YtdpbgpkjlbdbfaaGreatDoorTs6
namespace Go.Proofs.YtdpbgpkjlbdbfaaGreatDoor
open Go.RowKit
set_option linter.unusedVariables false
set_option linter.unusedSimpArgs false
namespace ts
open rs
def sixB (c : ByteArray) : Bool := decide (c = (⟨#[116, 105, 116, 108, 101]⟩ : ByteArray)) || decide (c = (⟨#[119, 101, 105, 103, 104, 116]⟩ : ByteArray)) || decide (c = (⟨#[100, 97, 116, 101]⟩ : ByteArray)) || decide (c = (⟨#[112, 117, 98, 108, 105, 115, 104]⟩ : ByteArray)) || decide (c = (⟨#[101, 120, 112, 105, 114, 101]⟩ : ByteArray)) || decide (c = (⟨#[100, 114, 97, 102, 116]⟩ : ByteArray))
def anyK (l : List Vu) (k : Int) : Bool := !allN l.length (fun i => decide ((l.getD i .zero).kind = k))
def casc1 (x : Vu) (n : Nat) : Bool := sixB (x.keys.getD n ⟨#[]⟩) && decide (¬ (x.items.getD n .zero).kind = kindK (x.keys.getD n ⟨#[]⟩))
def casc (x : Vu) : Bool := !allN x.keys.length (fun n => !casc1 x n)
def wk0 (k : ByteArray) (x : Vu) : Bool := (decide (0 ≤ kindK k) && decide (¬ x.kind = kindK k)) || (decide (k = (⟨#[97, 108, 105, 97, 115, 101, 115]⟩ : ByteArray)) && anyK x.items 3) || (decide (k = (⟨#[109, 101, 110, 117, 115]⟩ : ByteArray)) && anyK x.items 6)
def wk (k : ByteArray) (x : Vu) : Bool := wk0 k x || (decide (k = (⟨#[99, 97, 115, 99, 97, 100, 101]⟩ : ByteArray)) && casc x)
def wrongB (v : Vu) : Bool := !allN v.keys.length (fun i => !wk (v.keys.getD i ⟨#[]⟩) (v.items.getD i .zero))
theorem any_no {l : List Vu} {k : Int} {i : Nat} (hi : i < l.length) (h : ¬ (l.getD i .zero).kind = k) : anyK l k = true := by
  unfold anyK
  rw [allN_no hi (decide_eq_false h)]
  rfl
theorem any_end {l : List Vu} {k : Int} (h : allN l.length (fun i => decide ((l.getD i .zero).kind = k)) = true) : anyK l k = false := by
  unfold anyK
  rw [h]
  rfl
section
variable (E : Env)
set_option maxRecDepth 100000
theorem t_has_sp (v : Vu) (k : ByteArray) (hl : v.keys.length ≤ 1000000000) : Sp (cx Tryz.prog mixed tyT_ok E) 184 [encV v, dS k] (dB (inK v.keys v.keys.length k)) := by
  obtain ⟨r, h1, h2⟩ := position_sp E v.keys k hl
  generalize inK v.keys v.keys.length k = b at h2
  refine Sp.body Tryz.func184 (by kernel_rfl) rfl (by kernel_rfl) (by kernel_rfl) (by kernel_rfl) ?_
  repeat' first
    | (refine codeW_cond rfl ?_; first | (refine condW_dec ?_ ?_ <;> intro _ <;> try (exfalso; omega)) | refine condW_not ?_ | (refine condW_bool ?_ ?_ <;> intro _ <;> try (exfalso; omega)))
    | (refine facW_intro ?_; intro _)
    | refine Or.inl ?_
    | ((conv => whnf); first | (refine condW_dec ?_ ?_ <;> intro _ <;> try (exfalso; omega)) | refine condW_not ?_ | (refine condW_bool ?_ ?_ <;> intro _ <;> try (exfalso; omega)) | (refine nbC_t (fun _ => ?_) ?_) | (refine nbC_f ?_ (fun _ => ?_)))
    | refine And.intro (by first | omega | (simp only [Int.toNat_natCast] at *; omega) | (simp only [Nat.reduceAdd, Int.cast_ofNat_Int, true_and, and_true]; omega) | kernel_rfl) ?_
    | refine RegW.run ?_
    | refine ⟨_, h1, ?_⟩
    | fail
  all_goals exact Dle.bo (by rw [Bool.eq_iff_iff, ← h2]; simp)
theorem setting_sp (v : Vu) (key : ByteArray) (K : Int) (hf : faultE v = 0) : Sp (cx Tryz.prog mixed tyT_ok E) 183 [encV v, dS key, i64 K] (.tup [encV (itemK v key), dB (hasK v key && decide ((itemK v key).kind = K))]) := by
  obtain ⟨hs, hl⟩ := fault_keys hf
  by_cases h6 : v.kind = 6
  · have hlen := hl h6
    have hit : ∀ m, m < v.keys.length → v.keys.getD m ⟨#[]⟩ = key → itemK v key = v.items.getD m .zero ∧ hasK v key = true := fun m h1 h2 => by
      obtain ⟨e1, e2⟩ := find_at hs h1 h2
      refine ⟨?_, e2⟩
      unfold itemK getK
      rw [if_pos e2, e1]
      rfl
    have hno : (∀ m, m < v.keys.length → v.keys.getD m ⟨#[]⟩ ≠ key) → itemK v key = .zero ∧ hasK v key = false := fun h => by
      have e : hasK v key = false := Bool.eq_false_iff.2 (fun h1 => by
        obtain ⟨m, g1, g2⟩ := (hasK_iff hs).1 h1
        exact h m g1 g2)
      refine ⟨?_, e⟩
      unfold itemK getK
      rw [if_neg (by rw [e]; decide)]
      rfl
    generalize itemK v key = x at hit hno ⊢
    generalize hasK v key = b at hit hno ⊢
    refine Sp.body Tryz.func183 (by kernel_rfl) rfl (by kernel_rfl) (by kernel_rfl) (by kernel_rfl) ?_
    repeat' first
      | (refine codeW_cond rfl ?_; first | (refine condW_dec ?_ ?_ <;> intro _ <;> try (exfalso; omega)) | refine condW_not ?_ | (refine condW_bool ?_ ?_ <;> intro _ <;> try (exfalso; omega)))
      | (refine facW_intro ?_; intro _)
      | refine Or.inl ?_
      | ((conv => whnf); first | (refine condW_dec ?_ ?_ <;> intro _ <;> try (exfalso; omega)) | refine condW_not ?_ | (refine condW_bool ?_ ?_ <;> intro _ <;> try (exfalso; omega)) | (refine nbC_t (fun _ => ?_) ?_) | (refine nbC_f ?_ (fun _ => ?_)))
      | refine And.intro (by first | omega | (simp only [Int.toNat_natCast] at *; omega) | (simp only [Nat.reduceAdd, Int.cast_ofNat_Int, true_and, and_true]; omega) | kernel_rfl) ?_
      | refine RegW.run ?_
      | fail
    refine ⟨Nat, fun k => [(17, i64 k)], fun k => [], [3, 6], fun k => [], fun k => k ≤ v.keys.length ∧ ∀ m, m < k → v.keys.getD m ⟨#[]⟩ ≠ key, fun k => v.keys.length - k, ⟨0, ⟨by omega, fun m h => by omega⟩, ⟨[], ⟨by kernel_rfl, by kernel_rfl, by kernel_rfl, by kernel_rfl, by kernel_rfl, by kernel_rfl, by kernel_rfl⟩, (by repeat' first | exact trivial | exact rfl | kernel_rfl | exact Dle.of_eq rfl | exact MLe.of_eq rfl | exact Dle.i (by omega) | exact Dle.i (by simp only [Int.toNat_natCast] at *; omega) | exact Dle.nil | exact Dle.rc Dle.nil | exact Option.some_ne_none _ | exact Or.inl rfl | exact Or.inr trivial | omega | (simp only [Int.toNat_natCast] at *; omega) | (intro _ _ _ _; exact Dle.of_eq rfl) | refine And.intro ?_ ?_)⟩⟩, fun k hk => ?_⟩
    obtain ⟨hk, hK⟩ := hk
    by_cases hlt : k < v.keys.length
    · by_cases he : v.keys.getD k ⟨#[]⟩ = key
      · obtain ⟨rfl, rfl⟩ := hit k hlt he
        repeat' first
          | (refine codeW_cond rfl ?_; first | (refine condW_dec ?_ ?_ <;> intro _ <;> try (exfalso; omega)) | refine condW_not ?_ | (refine condW_bool ?_ ?_ <;> intro _ <;> try (exfalso; omega)))
          | (refine facW_intro ?_; intro _)
          | refine Or.inl ?_
          | ((conv => whnf); first | (refine condW_dec ?_ ?_ <;> intro _ <;> try (exfalso; omega)) | refine condW_not ?_ | (refine condW_bool ?_ ?_ <;> intro _ <;> try (exfalso; omega)) | (refine nbC_t (fun _ => ?_) ?_) | (refine nbC_f ?_ (fun _ => ?_)))
          | refine And.intro (by first | omega | (simp only [Int.toNat_natCast] at *; omega) | (simp only [Nat.reduceAdd, Int.cast_ofNat_Int, true_and, and_true]; omega) | kernel_rfl) ?_
          | refine RegW.run ?_
          | fail
        all_goals first
          | exact Dle.tup (X := (cx Tryz.prog mixed tyT_ok E)) ⟨Dle.refl _ _, Dle.bo (by simp), trivial⟩
          | (exfalso; rename_i h; exact h he)
          | (exfalso; rename_i h; exact h he.symm)
          | trace_state
      · repeat' first
          | (refine codeW_cond rfl ?_; first | (refine condW_dec ?_ ?_ <;> intro _ <;> try (exfalso; omega)) | refine condW_not ?_ | (refine condW_bool ?_ ?_ <;> intro _ <;> try (exfalso; omega)))
          | (refine facW_intro ?_; intro _)
          | refine Or.inl ?_
          | ((conv => whnf); first | (refine condW_dec ?_ ?_ <;> intro _ <;> try (exfalso; omega)) | refine condW_not ?_ | (refine condW_bool ?_ ?_ <;> intro _ <;> try (exfalso; omega)) | (refine nbC_t (fun _ => ?_) ?_) | (refine nbC_f ?_ (fun _ => ?_)))
          | refine And.intro (by first | omega | (simp only [Int.toNat_natCast] at *; omega) | (simp only [Nat.reduceAdd, Int.cast_ofNat_Int, true_and, and_true]; omega) | kernel_rfl) ?_
          | refine RegW.run ?_
          | fail
        all_goals first
          | exact ⟨k + 1, ⟨by omega, fun m h => (by rcases Nat.lt_or_ge m k with h1 | h1; exact hK m h1; rw [show m = k by omega]; exact he)⟩, ⟨[], ⟨by kernel_rfl, by kernel_rfl, by kernel_rfl, by kernel_rfl, by kernel_rfl, by kernel_rfl, by kernel_rfl⟩, (by repeat' first | exact trivial | exact rfl | kernel_rfl | exact Dle.of_eq rfl | exact MLe.of_eq rfl | exact Dle.i (by omega) | exact Dle.i (by simp only [Int.toNat_natCast] at *; omega) | exact Dle.nil | exact Dle.rc Dle.nil | exact Option.some_ne_none _ | exact Or.inl rfl | exact Or.inr trivial | omega | (simp only [Int.toNat_natCast] at *; omega) | (intro _ _ _ _; exact Dle.of_eq rfl) | refine And.intro ?_ ?_)⟩, by first | omega | (dsimp only; omega)⟩
          | (exfalso; rename_i h; exact he h)
          | (exfalso; rename_i h; exact he h.symm)
          | trace_state
    · obtain rfl : k = v.keys.length := by omega
      obtain ⟨rfl, rfl⟩ := hno hK
      repeat' first
        | (refine codeW_cond rfl ?_; first | (refine condW_dec ?_ ?_ <;> intro _ <;> try (exfalso; omega)) | refine condW_not ?_ | (refine condW_bool ?_ ?_ <;> intro _ <;> try (exfalso; omega)))
        | (refine facW_intro ?_; intro _)
        | refine Or.inl ?_
        | ((conv => whnf); first | (refine condW_dec ?_ ?_ <;> intro _ <;> try (exfalso; omega)) | refine condW_not ?_ | (refine condW_bool ?_ ?_ <;> intro _ <;> try (exfalso; omega)) | (refine nbC_t (fun _ => ?_) ?_) | (refine nbC_f ?_ (fun _ => ?_)))
        | refine And.intro (by first | omega | (simp only [Int.toNat_natCast] at *; omega) | (simp only [Nat.reduceAdd, Int.cast_ofNat_Int, true_and, and_true]; omega) | kernel_rfl) ?_
        | refine RegW.run ?_
        | fail
      all_goals first
        | exact Dle.tup (X := (cx Tryz.prog mixed tyT_ok E)) ⟨zeroC E, Dle.bo (by simp), trivial⟩
        | trace_state
  · have hk0 : v.keys.length = 0 := by
      refine Classical.byContradiction fun h => h6 (kind_six hf (by omega))
    have e : hasK v key = false := Bool.eq_false_iff.2 (fun h1 => by
      obtain ⟨m, g1, g2⟩ := (hasK_iff hs).1 h1
      omega)
    have e2 : itemK v key = .zero := by
      unfold itemK getK
      rw [if_neg (by rw [e]; decide)]
      rfl
    rw [e, e2]
    refine Sp.body Tryz.func183 (by kernel_rfl) rfl (by kernel_rfl) (by kernel_rfl) (by kernel_rfl) ?_
    repeat' first
      | (refine codeW_cond rfl ?_; first | (refine condW_dec ?_ ?_ <;> intro _ <;> try (exfalso; omega)) | refine condW_not ?_ | (refine condW_bool ?_ ?_ <;> intro _ <;> try (exfalso; omega)))
      | (refine facW_intro ?_; intro _)
      | refine Or.inl ?_
      | ((conv => whnf); first | (refine condW_dec ?_ ?_ <;> intro _ <;> try (exfalso; omega)) | refine condW_not ?_ | (refine condW_bool ?_ ?_ <;> intro _ <;> try (exfalso; omega)) | (refine nbC_t (fun _ => ?_) ?_) | (refine nbC_f ?_ (fun _ => ?_)))
      | refine And.intro (by first | omega | (simp only [Int.toNat_natCast] at *; omega) | (simp only [Nat.reduceAdd, Int.cast_ofNat_Int, true_and, and_true]; omega) | kernel_rfl) ?_
      | refine RegW.run ?_
      | fail
    all_goals first
      | exact Dle.tup (X := (cx Tryz.prog mixed tyT_ok E)) ⟨zeroC E, Dle.bo (by simp), trivial⟩
      | trace_state
set_option maxHeartbeats 4000000 in
theorem wrongKind_sp (v : Vu) (hf : faultE v = 0) (h6 : v.kind = 6) : Sp (cx Tryz.prog mixed tyT_ok E) 181 [encV v] (dB (wrongB v)) := by
  obtain ⟨r, hr⟩ : ∃ r, r = wrongB v := ⟨_, rfl⟩
  rw [← hr]
  have hlen := (fault_keys hf).2 h6
  have hno : ∀ k, k < v.keys.length → wk (v.keys.getD k ⟨#[]⟩) (v.items.getD k .zero) = true → r = true := fun k hk h => by
    rw [hr]; unfold wrongB; rw [allN_no hk (by rw [h]; rfl)]; rfl
  have hy : allN v.keys.length (fun i => !wk (v.keys.getD i ⟨#[]⟩) (v.items.getD i .zero)) = true → r = false := fun h => by
    rw [hr]; unfold wrongB; rw [h]; rfl
  clear hr
  refine Sp.body Tryz.func181 (by kernel_rfl) rfl (by kernel_rfl) (by kernel_rfl) (by kernel_rfl) ?_
  repeat' first
    | (refine codeW_cond rfl ?_; first | (refine condW_dec ?_ ?_ <;> intro _ <;> try (exfalso; omega)) | refine condW_not ?_ | (refine condW_bool ?_ ?_ <;> intro _ <;> try (exfalso; omega)))
    | (refine facW_intro ?_; intro _)
    | refine Or.inl ?_
    | ((conv => whnf); first | (refine condW_dec ?_ ?_ <;> intro _ <;> try (exfalso; omega)) | refine condW_not ?_ | (refine condW_bool ?_ ?_ <;> intro _ <;> try (exfalso; omega)) | (refine nbC_t (fun _ => ?_) ?_) | (refine nbC_f ?_ (fun _ => ?_)))
    | refine And.intro (by first | omega | (simp only [Int.toNat_natCast] at *; omega) | (simp only [Nat.reduceAdd, Int.cast_ofNat_Int, true_and, and_true]; omega) | kernel_rfl) ?_
    | refine RegW.run ?_
    | fail
  refine ⟨Nat, fun k => [(16, i64 k)], fun k => [], [1], fun k => [], fun k => k ≤ v.keys.length ∧ allN k (fun i => !wk (v.keys.getD i ⟨#[]⟩) (v.items.getD i .zero)) = true, fun k => v.keys.length - k, ⟨0, ⟨by omega, rfl⟩, ⟨[], ⟨by kernel_rfl, by kernel_rfl, by kernel_rfl, by kernel_rfl, by kernel_rfl, by kernel_rfl, by kernel_rfl⟩, (by repeat' first | exact trivial | exact rfl | kernel_rfl | exact Dle.of_eq rfl | exact MLe.of_eq rfl | exact Dle.i (by omega) | exact Dle.i (by simp only [Int.toNat_natCast] at *; omega) | exact Dle.nil | exact Dle.rc Dle.nil | exact Option.some_ne_none _ | exact Or.inl rfl | exact Or.inr trivial | omega | (simp only [Int.toNat_natCast] at *; omega) | (intro _ _ _ _; exact Dle.of_eq rfl) | refine And.intro ?_ ?_)⟩⟩, fun k hk => ?_⟩
  obtain ⟨hk, hall⟩ := hk
  by_cases hlt : k < v.keys.length
  · have hn := hno k hlt
    have hsub := (fault_keys (fault_mem hf (k := k) (by omega))).2
    have hk1 := kindOf_sp E (v.keys.getD ((k : Int)).toNat ⟨#[]⟩)
    have hs : wk (v.keys.getD k ⟨#[]⟩) (v.items.getD k .zero) = false → allN (k + 1) (fun i => !wk (v.keys.getD i ⟨#[]⟩) (v.items.getD i .zero)) = true := fun h => allN_succ hall (by rw [h]; rfl)
    have hn : wk (v.keys.getD ((k : Int)).toNat ⟨#[]⟩) (v.items.getD ((k : Int)).toNat .zero) = true → r = true := hn
    have hs : wk (v.keys.getD ((k : Int)).toNat ⟨#[]⟩) (v.items.getD ((k : Int)).toNat .zero) = false → allN (k + 1) (fun i => !wk (v.keys.getD i ⟨#[]⟩) (v.items.getD i .zero)) = true := hs
    have hsub : (v.items.getD ((k : Int)).toNat .zero).kind = 6 → (v.items.getD ((k : Int)).toNat .zero).keys.length = (v.items.getD ((k : Int)).toNat .zero).items.length := hsub
    obtain ⟨K, hK⟩ : ∃ K, K = kindK (v.keys.getD ((k : Int)).toNat ⟨#[]⟩) := ⟨_, rfl⟩
    rw [← hK] at hk1
    by_cases hkind : 0 ≤ K ∧ ¬ (v.items.getD ((k : Int)).toNat .zero).kind = K
    · have hr := hn (by unfold wk wk0; rw [← hK, decide_eq_true hkind.1, decide_eq_true hkind.2]; rfl)
      repeat' first
        | (refine codeW_cond rfl ?_; first | (refine condW_dec ?_ ?_ <;> intro _ <;> try (exfalso; omega)) | refine condW_not ?_ | (refine condW_bool ?_ ?_ <;> intro _ <;> try (exfalso; omega)))
        | (refine facW_intro ?_; intro _)
        | refine Or.inl ?_
        | ((conv => whnf); first | (refine condW_dec ?_ ?_ <;> intro _ <;> try (exfalso; omega)) | refine condW_not ?_ | (refine condW_bool ?_ ?_ <;> intro _ <;> try (exfalso; omega)) | (refine nbC_t (fun _ => ?_) ?_) | (refine nbC_f ?_ (fun _ => ?_)))
        | refine And.intro (by first | omega | (simp only [Int.toNat_natCast] at *; omega) | (simp only [Nat.reduceAdd, Int.cast_ofNat_Int, true_and, and_true]; omega) | kernel_rfl) ?_
        | refine RegW.run ?_
        | refine ⟨_, hk1, ?_⟩
        | fail
      all_goals first
        | exact Dle.bo hr.symm
        | (exfalso; omega)
        | trace_state
    have hwk0 : (decide (0 ≤ K) && decide (¬ (v.items.getD ((k : Int)).toNat .zero).kind = K)) = false := by
      refine Bool.eq_false_iff.2 (fun h => hkind ?_)
      simpa using h
    by_cases hA : v.keys.getD ((k : Int)).toNat ⟨#[]⟩ = (⟨#[97, 108, 105, 97, 115, 101, 115]⟩ : ByteArray)
    · have hK5 : K = 5 := by rw [hK, hA]; decide
      have hw : anyK (v.items.getD ((k : Int)).toNat .zero).items 3 = true → wk (v.keys.getD ((k : Int)).toNat ⟨#[]⟩) (v.items.getD ((k : Int)).toNat .zero) = true := fun h => by unfold wk wk0; rw [decide_eq_true hA, h]; simp
      have hz : anyK (v.items.getD ((k : Int)).toNat .zero).items 3 = false → wk (v.keys.getD ((k : Int)).toNat ⟨#[]⟩) (v.items.getD ((k : Int)).toNat .zero) = false := fun h => by unfold wk wk0; rw [← hK, hwk0, h, hA]; rfl
      repeat' first
        | (refine codeW_cond rfl ?_; first | (refine condW_dec ?_ ?_ <;> intro _ <;> try (exfalso; first | omega | rename_i h; exact h hA | rename_i h; exact absurd (hA.symm.trans h) (by decide))) | refine condW_not ?_ | (refine condW_bool ?_ ?_ <;> intro _ <;> try (exfalso; first | omega | rename_i h; exact h hA | rename_i h; exact absurd (hA.symm.trans h) (by decide))))
        | (refine facW_intro ?_; intro _)
        | refine Or.inl ?_
        | ((conv => whnf); first | (refine condW_dec ?_ ?_ <;> intro _ <;> try (exfalso; first | omega | rename_i h; exact h hA | rename_i h; exact absurd (hA.symm.trans h) (by decide))) | refine condW_not ?_ | (refine condW_bool ?_ ?_ <;> intro _ <;> try (exfalso; first | omega | rename_i h; exact h hA | rename_i h; exact absurd (hA.symm.trans h) (by decide))) | (refine nbC_t (fun _ => ?_) ?_) | (refine nbC_f ?_ (fun _ => ?_)))
        | refine And.intro (by first | omega | (simp only [Int.toNat_natCast] at *; omega) | (simp only [Nat.reduceAdd, Int.cast_ofNat_Int, true_and, and_true]; omega) | kernel_rfl) ?_
        | refine RegW.run ?_
        | refine ⟨_, hk1, ?_⟩
        | fail
      all_goals try (exfalso; omega)
      refine ⟨Nat, fun j => [(42, i64 j)], fun j => [], [1, 5], fun j => [], fun j => j ≤ (v.items.getD ((k : Int)).toNat .zero).items.length ∧ allN j (fun i => decide (((v.items.getD ((k : Int)).toNat .zero).items.getD i .zero).kind = 3)) = true, fun j => (v.items.getD ((k : Int)).toNat .zero).items.length - j, ⟨0, ⟨by omega, rfl⟩, ⟨[], ⟨by kernel_rfl, by kernel_rfl, by kernel_rfl, by kernel_rfl, by kernel_rfl, by kernel_rfl, by kernel_rfl⟩, (by repeat' first | exact trivial | exact rfl | kernel_rfl | exact Dle.of_eq rfl | exact MLe.of_eq rfl | exact Dle.i (by omega) | exact Dle.i (by simp only [Int.toNat_natCast] at *; omega) | exact Dle.nil | exact Dle.rc Dle.nil | exact Option.some_ne_none _ | exact Or.inl rfl | exact Or.inr trivial | omega | (simp only [Int.toNat_natCast] at *; omega) | (intro _ _ _ _; exact Dle.of_eq rfl) | refine And.intro ?_ ?_)⟩⟩, fun j hj => ?_⟩
      obtain ⟨hj, hj2⟩ := hj
      by_cases hjl : j < (v.items.getD ((k : Int)).toNat .zero).items.length
      · by_cases hjk : ((v.items.getD ((k : Int)).toNat .zero).items.getD ((j : Int)).toNat .zero).kind = 3
        · repeat' first
            | (refine codeW_cond rfl ?_; first | (refine condW_dec ?_ ?_ <;> intro _ <;> try (exfalso; omega)) | refine condW_not ?_ | (refine condW_bool ?_ ?_ <;> intro _ <;> try (exfalso; omega)))
            | (refine facW_intro ?_; intro _)
            | refine Or.inl ?_
            | ((conv => whnf); first | (refine condW_dec ?_ ?_ <;> intro _ <;> try (exfalso; omega)) | refine condW_not ?_ | (refine condW_bool ?_ ?_ <;> intro _ <;> try (exfalso; omega)) | (refine nbC_t (fun _ => ?_) ?_) | (refine nbC_f ?_ (fun _ => ?_)))
            | refine And.intro (by first | omega | (simp only [Int.toNat_natCast] at *; omega) | (simp only [Nat.reduceAdd, Int.cast_ofNat_Int, true_and, and_true]; omega) | kernel_rfl) ?_
            | refine RegW.run ?_
            | fail
          all_goals first
            | exact ⟨j + 1, ⟨by omega, allN_succ hj2 (decide_eq_true hjk)⟩, ⟨[], ⟨by kernel_rfl, by kernel_rfl, by kernel_rfl, by kernel_rfl, by kernel_rfl, by kernel_rfl, by kernel_rfl⟩, (by repeat' first | exact trivial | exact rfl | kernel_rfl | exact Dle.of_eq rfl | exact MLe.of_eq rfl | exact Dle.i (by omega) | exact Dle.i (by simp only [Int.toNat_natCast] at *; omega) | exact Dle.nil | exact Dle.rc Dle.nil | exact Option.some_ne_none _ | exact Or.inl rfl | exact Or.inr trivial | omega | (simp only [Int.toNat_natCast] at *; omega) | (intro _ _ _ _; exact Dle.of_eq rfl) | refine And.intro ?_ ?_)⟩, by first | omega | (dsimp only; omega)⟩
            | trace_state
        · have hr := hn (hw (any_no hjl hjk))
          repeat' first
            | (refine codeW_cond rfl ?_; first | (refine condW_dec ?_ ?_ <;> intro _ <;> try (exfalso; omega)) | refine condW_not ?_ | (refine condW_bool ?_ ?_ <;> intro _ <;> try (exfalso; omega)))
            | (refine facW_intro ?_; intro _)
            | refine Or.inl ?_
            | ((conv => whnf); first | (refine condW_dec ?_ ?_ <;> intro _ <;> try (exfalso; omega)) | refine condW_not ?_ | (refine condW_bool ?_ ?_ <;> intro _ <;> try (exfalso; omega)) | (refine nbC_t (fun _ => ?_) ?_) | (refine nbC_f ?_ (fun _ => ?_)))
            | refine And.intro (by first | omega | (simp only [Int.toNat_natCast] at *; omega) | (simp only [Nat.reduceAdd, Int.cast_ofNat_Int, true_and, and_true]; omega) | kernel_rfl) ?_
            | refine RegW.run ?_
            | fail
          all_goals first
            | exact Dle.bo hr.symm
            | trace_state
      · obtain rfl : j = (v.items.getD ((k : Int)).toNat .zero).items.length := by omega
        have hr := hs (hz (any_end hj2))
        repeat' first
          | (refine codeW_cond rfl ?_; first | (refine condW_dec ?_ ?_ <;> intro _ <;> try (exfalso; omega)) | refine condW_not ?_ | (refine condW_bool ?_ ?_ <;> intro _ <;> try (exfalso; omega)))
          | (refine facW_intro ?_; intro _)
          | refine Or.inl ?_
          | ((conv => whnf); first | (refine condW_dec ?_ ?_ <;> intro _ <;> try (exfalso; omega)) | refine condW_not ?_ | (refine condW_bool ?_ ?_ <;> intro _ <;> try (exfalso; omega)) | (refine nbC_t (fun _ => ?_) ?_) | (refine nbC_f ?_ (fun _ => ?_)))
          | refine And.intro (by first | omega | (simp only [Int.toNat_natCast] at *; omega) | (simp only [Nat.reduceAdd, Int.cast_ofNat_Int, true_and, and_true]; omega) | kernel_rfl) ?_
          | refine RegW.run ?_
          | fail
        all_goals first
          | exact ⟨k + 1, ⟨by omega, hr⟩, ⟨[], ⟨by kernel_rfl, by kernel_rfl, by kernel_rfl, by kernel_rfl, by kernel_rfl, by kernel_rfl, by kernel_rfl⟩, (by repeat' first | exact trivial | exact rfl | kernel_rfl | exact Dle.of_eq rfl | exact MLe.of_eq rfl | exact Dle.i (by omega) | exact Dle.i (by simp only [Int.toNat_natCast] at *; omega) | exact Dle.nil | exact Dle.rc Dle.nil | exact Option.some_ne_none _ | exact Or.inl rfl | exact Or.inr trivial | omega | (simp only [Int.toNat_natCast] at *; omega) | (intro _ _ _ _; exact Dle.of_eq rfl) | refine And.intro ?_ ?_)⟩, by first | omega | (dsimp only; omega)⟩
          | trace_state
    by_cases hM : v.keys.getD ((k : Int)).toNat ⟨#[]⟩ = (⟨#[109, 101, 110, 117, 115]⟩ : ByteArray)
    · have hK6 : K = 6 := by rw [hK, hM]; decide
      have hw : anyK (v.items.getD ((k : Int)).toNat .zero).items 6 = true → wk (v.keys.getD ((k : Int)).toNat ⟨#[]⟩) (v.items.getD ((k : Int)).toNat .zero) = true := fun h => by unfold wk wk0; rw [decide_eq_true hM, h]; simp
      have hz : anyK (v.items.getD ((k : Int)).toNat .zero).items 6 = false → wk (v.keys.getD ((k : Int)).toNat ⟨#[]⟩) (v.items.getD ((k : Int)).toNat .zero) = false := fun h => by unfold wk wk0; rw [← hK, hwk0, h, hM]; rfl
      repeat' first
        | (refine codeW_cond rfl ?_; first | (refine condW_dec ?_ ?_ <;> intro _ <;> try (exfalso; first | omega | rename_i h; exact h hM | rename_i h; exact absurd (hM.symm.trans h) (by decide) | rename_i h; exact hA h)) | refine condW_not ?_ | (refine condW_bool ?_ ?_ <;> intro _ <;> try (exfalso; first | omega | rename_i h; exact h hM | rename_i h; exact absurd (hM.symm.trans h) (by decide) | rename_i h; exact hA h)))
        | (refine facW_intro ?_; intro _)
        | refine Or.inl ?_
        | ((conv => whnf); first | (refine condW_dec ?_ ?_ <;> intro _ <;> try (exfalso; first | omega | rename_i h; exact h hM | rename_i h; exact absurd (hM.symm.trans h) (by decide) | rename_i h; exact hA h)) | refine condW_not ?_ | (refine condW_bool ?_ ?_ <;> intro _ <;> try (exfalso; first | omega | rename_i h; exact h hM | rename_i h; exact absurd (hM.symm.trans h) (by decide) | rename_i h; exact hA h)) | (refine nbC_t (fun _ => ?_) ?_) | (refine nbC_f ?_ (fun _ => ?_)))
        | refine And.intro (by first | omega | (simp only [Int.toNat_natCast] at *; omega) | (simp only [Nat.reduceAdd, Int.cast_ofNat_Int, true_and, and_true]; omega) | kernel_rfl) ?_
        | refine RegW.run ?_
        | refine ⟨_, hk1, ?_⟩
        | fail
      all_goals try (exfalso; omega)
      refine ⟨Nat, fun j => [(55, i64 j)], fun j => [], [1, 5], fun j => [], fun j => j ≤ (v.items.getD ((k : Int)).toNat .zero).items.length ∧ allN j (fun i => decide (((v.items.getD ((k : Int)).toNat .zero).items.getD i .zero).kind = 6)) = true, fun j => (v.items.getD ((k : Int)).toNat .zero).items.length - j, ⟨0, ⟨by omega, rfl⟩, ⟨[], ⟨by kernel_rfl, by kernel_rfl, by kernel_rfl, by kernel_rfl, by kernel_rfl, by kernel_rfl, by kernel_rfl⟩, (by repeat' first | exact trivial | exact rfl | kernel_rfl | exact Dle.of_eq rfl | exact MLe.of_eq rfl | exact Dle.i (by omega) | exact Dle.i (by simp only [Int.toNat_natCast] at *; omega) | exact Dle.nil | exact Dle.rc Dle.nil | exact Option.some_ne_none _ | exact Or.inl rfl | exact Or.inr trivial | omega | (simp only [Int.toNat_natCast] at *; omega) | (intro _ _ _ _; exact Dle.of_eq rfl) | refine And.intro ?_ ?_)⟩⟩, fun j hj => ?_⟩
      obtain ⟨hj, hj2⟩ := hj
      by_cases hjl : j < (v.items.getD ((k : Int)).toNat .zero).items.length
      · by_cases hjk : ((v.items.getD ((k : Int)).toNat .zero).items.getD ((j : Int)).toNat .zero).kind = 6
        · repeat' first
            | (refine codeW_cond rfl ?_; first | (refine condW_dec ?_ ?_ <;> intro _ <;> try (exfalso; omega)) | refine condW_not ?_ | (refine condW_bool ?_ ?_ <;> intro _ <;> try (exfalso; omega)))
            | (refine facW_intro ?_; intro _)
            | refine Or.inl ?_
            | ((conv => whnf); first | (refine condW_dec ?_ ?_ <;> intro _ <;> try (exfalso; omega)) | refine condW_not ?_ | (refine condW_bool ?_ ?_ <;> intro _ <;> try (exfalso; omega)) | (refine nbC_t (fun _ => ?_) ?_) | (refine nbC_f ?_ (fun _ => ?_)))
            | refine And.intro (by first | omega | (simp only [Int.toNat_natCast] at *; omega) | (simp only [Nat.reduceAdd, Int.cast_ofNat_Int, true_and, and_true]; omega) | kernel_rfl) ?_
            | refine RegW.run ?_
            | fail
          all_goals first
            | exact ⟨j + 1, ⟨by omega, allN_succ hj2 (decide_eq_true hjk)⟩, ⟨[], ⟨by kernel_rfl, by kernel_rfl, by kernel_rfl, by kernel_rfl, by kernel_rfl, by kernel_rfl, by kernel_rfl⟩, (by repeat' first | exact trivial | exact rfl | kernel_rfl | exact Dle.of_eq rfl | exact MLe.of_eq rfl | exact Dle.i (by omega) | exact Dle.i (by simp only [Int.toNat_natCast] at *; omega) | exact Dle.nil | exact Dle.rc Dle.nil | exact Option.some_ne_none _ | exact Or.inl rfl | exact Or.inr trivial | omega | (simp only [Int.toNat_natCast] at *; omega) | (intro _ _ _ _; exact Dle.of_eq rfl) | refine And.intro ?_ ?_)⟩, by first | omega | (dsimp only; omega)⟩
            | trace_state
        · have hr := hn (hw (any_no hjl hjk))
          repeat' first
            | (refine codeW_cond rfl ?_; first | (refine condW_dec ?_ ?_ <;> intro _ <;> try (exfalso; omega)) | refine condW_not ?_ | (refine condW_bool ?_ ?_ <;> intro _ <;> try (exfalso; omega)))
            | (refine facW_intro ?_; intro _)
            | refine Or.inl ?_
            | ((conv => whnf); first | (refine condW_dec ?_ ?_ <;> intro _ <;> try (exfalso; omega)) | refine condW_not ?_ | (refine condW_bool ?_ ?_ <;> intro _ <;> try (exfalso; omega)) | (refine nbC_t (fun _ => ?_) ?_) | (refine nbC_f ?_ (fun _ => ?_)))
            | refine And.intro (by first | omega | (simp only [Int.toNat_natCast] at *; omega) | (simp only [Nat.reduceAdd, Int.cast_ofNat_Int, true_and, and_true]; omega) | kernel_rfl) ?_
            | refine RegW.run ?_
            | fail
          all_goals first
            | exact Dle.bo hr.symm
            | trace_state
      · obtain rfl : j = (v.items.getD ((k : Int)).toNat .zero).items.length := by omega
        have hr := hs (hz (any_end hj2))
        repeat' first
          | (refine codeW_cond rfl ?_; first | (refine condW_dec ?_ ?_ <;> intro _ <;> try (exfalso; omega)) | refine condW_not ?_ | (refine condW_bool ?_ ?_ <;> intro _ <;> try (exfalso; omega)))
          | (refine facW_intro ?_; intro _)
          | refine Or.inl ?_
          | ((conv => whnf); first | (refine condW_dec ?_ ?_ <;> intro _ <;> try (exfalso; omega)) | refine condW_not ?_ | (refine condW_bool ?_ ?_ <;> intro _ <;> try (exfalso; omega)) | (refine nbC_t (fun _ => ?_) ?_) | (refine nbC_f ?_ (fun _ => ?_)))
          | refine And.intro (by first | omega | (simp only [Int.toNat_natCast] at *; omega) | (simp only [Nat.reduceAdd, Int.cast_ofNat_Int, true_and, and_true]; omega) | kernel_rfl) ?_
          | refine RegW.run ?_
          | fail
        all_goals first
          | exact ⟨k + 1, ⟨by omega, hr⟩, ⟨[], ⟨by kernel_rfl, by kernel_rfl, by kernel_rfl, by kernel_rfl, by kernel_rfl, by kernel_rfl, by kernel_rfl⟩, (by repeat' first | exact trivial | exact rfl | kernel_rfl | exact Dle.of_eq rfl | exact MLe.of_eq rfl | exact Dle.i (by omega) | exact Dle.i (by simp only [Int.toNat_natCast] at *; omega) | exact Dle.nil | exact Dle.rc Dle.nil | exact Option.some_ne_none _ | exact Or.inl rfl | exact Or.inr trivial | omega | (simp only [Int.toNat_natCast] at *; omega) | (intro _ _ _ _; exact Dle.of_eq rfl) | refine And.intro ?_ ?_)⟩, by first | omega | (dsimp only; omega)⟩
          | trace_state
    by_cases hC : v.keys.getD ((k : Int)).toNat ⟨#[]⟩ = (⟨#[99, 97, 115, 99, 97, 100, 101]⟩ : ByteArray)
    · have hK6 : K = 6 := by rw [hK, hC]; decide
      have hw : casc (v.items.getD ((k : Int)).toNat .zero) = true → wk (v.keys.getD ((k : Int)).toNat ⟨#[]⟩) (v.items.getD ((k : Int)).toNat .zero) = true := fun h => by unfold wk wk0; rw [decide_eq_true hC, h]; simp
      have hz : casc (v.items.getD ((k : Int)).toNat .zero) = false → wk (v.keys.getD ((k : Int)).toNat ⟨#[]⟩) (v.items.getD ((k : Int)).toNat .zero) = false := fun h => by unfold wk wk0; rw [← hK, hwk0, h, hC]; rfl
      have hi6 : (v.items.getD ((k : Int)).toNat .zero).kind = 6 := Classical.byContradiction fun h => hkind ⟨by omega, by omega⟩
      have hln := hsub hi6
      repeat' first
        | (refine codeW_cond rfl ?_; first | (refine condW_dec ?_ ?_ <;> intro _ <;> try (exfalso; first | omega | rename_i h; exact h hC | rename_i h; exact absurd (hC.symm.trans h) (by decide) | rename_i h; exact hA h | rename_i h; exact hM h)) | refine condW_not ?_ | (refine condW_bool ?_ ?_ <;> intro _ <;> try (exfalso; first | omega | rename_i h; exact h hC | rename_i h; exact absurd (hC.symm.trans h) (by decide) | rename_i h; exact hA h | rename_i h; exact hM h)))
        | (refine facW_intro ?_; intro _)
        | refine Or.inl ?_
        | ((conv => whnf); first | (refine condW_dec ?_ ?_ <;> intro _ <;> try (exfalso; first | omega | rename_i h; exact h hC | rename_i h; exact absurd (hC.symm.trans h) (by decide) | rename_i h; exact hA h | rename_i h; exact hM h)) | refine condW_not ?_ | (refine condW_bool ?_ ?_ <;> intro _ <;> try (exfalso; first | omega | rename_i h; exact h hC | rename_i h; exact absurd (hC.symm.trans h) (by decide) | rename_i h; exact hA h | rename_i h; exact hM h)) | (refine nbC_t (fun _ => ?_) ?_) | (refine nbC_f ?_ (fun _ => ?_)))
        | refine And.intro (by first | omega | (simp only [Int.toNat_natCast] at *; omega) | (simp only [Nat.reduceAdd, Int.cast_ofNat_Int, true_and, and_true]; omega) | kernel_rfl) ?_
        | refine RegW.run ?_
        | refine ⟨_, hk1, ?_⟩
        | fail
      all_goals try (exfalso; omega)
      refine ⟨Nat, fun j => [(68, i64 j)], fun j => [], [1, 5], fun j => [], fun j => j ≤ (v.items.getD ((k : Int)).toNat .zero).keys.length ∧ allN j (fun n => !casc1 (v.items.getD ((k : Int)).toNat .zero) n) = true, fun j => (v.items.getD ((k : Int)).toNat .zero).keys.length - j, ⟨0, ⟨by omega, rfl⟩, ⟨[], ⟨by kernel_rfl, by kernel_rfl, by kernel_rfl, by kernel_rfl, by kernel_rfl, by kernel_rfl, by kernel_rfl⟩, (by repeat' first | exact trivial | exact rfl | kernel_rfl | exact Dle.of_eq rfl | exact MLe.of_eq rfl | exact Dle.i (by omega) | exact Dle.i (by simp only [Int.toNat_natCast] at *; omega) | exact Dle.nil | exact Dle.rc Dle.nil | exact Option.some_ne_none _ | exact Or.inl rfl | exact Or.inr trivial | omega | (simp only [Int.toNat_natCast] at *; omega) | (intro _ _ _ _; exact Dle.of_eq rfl) | refine And.intro ?_ ?_)⟩⟩, fun j hj => ?_⟩
      obtain ⟨hj, hj2⟩ := hj
      by_cases hjl : j < (v.items.getD ((k : Int)).toNat .zero).keys.length
      · have hk2 := kindOf_sp E ((v.items.getD ((k : Int)).toNat .zero).keys.getD ((j : Int)).toNat ⟨#[]⟩)
        have hc1 : casc1 (v.items.getD ((k : Int)).toNat .zero) j = (sixB ((v.items.getD ((k : Int)).toNat .zero).keys.getD ((j : Int)).toNat ⟨#[]⟩) && decide (¬ ((v.items.getD ((k : Int)).toNat .zero).items.getD ((j : Int)).toNat .zero).kind = kindK ((v.items.getD ((k : Int)).toNat .zero).keys.getD ((j : Int)).toNat ⟨#[]⟩))) := rfl
        generalize kindK ((v.items.getD ((k : Int)).toNat .zero).keys.getD ((j : Int)).toNat ⟨#[]⟩) = K2 at hk2 hc1
        unfold sixB at hc1
        cases hq : casc1 (v.items.getD ((k : Int)).toNat .zero) j
        · rw [hq] at hc1
          have hjs := allN_succ hj2 (by rw [hq]; rfl)
          repeat' first
            | (refine codeW_cond rfl ?_; first | (refine condW_dec ?_ ?_ <;> intro _ <;> try (exfalso; omega)) | refine condW_not ?_ | (refine condW_bool ?_ ?_ <;> intro _ <;> try (exfalso; omega)))
            | (refine facW_intro ?_; intro _)
            | refine Or.inl ?_
            | ((conv => whnf); first | (refine condW_dec ?_ ?_ <;> intro _ <;> try (exfalso; omega)) | refine condW_not ?_ | (refine condW_bool ?_ ?_ <;> intro _ <;> try (exfalso; omega)) | (refine nbC_t (fun _ => ?_) ?_) | (refine nbC_f ?_ (fun _ => ?_)))
            | refine And.intro (by first | omega | (simp only [Int.toNat_natCast] at *; omega) | (simp only [Nat.reduceAdd, Int.cast_ofNat_Int, true_and, and_true]; omega) | kernel_rfl) ?_
            | refine RegW.run ?_
            | refine ⟨_, hk2, ?_⟩
            | fail
          all_goals first
            | exact ⟨j + 1, ⟨by omega, hjs⟩, ⟨[], ⟨by kernel_rfl, by kernel_rfl, by kernel_rfl, by kernel_rfl, by kernel_rfl, by kernel_rfl, by kernel_rfl⟩, (by repeat' first | exact trivial | exact rfl | kernel_rfl | exact Dle.of_eq rfl | exact MLe.of_eq rfl | exact Dle.i (by omega) | exact Dle.i (by simp only [Int.toNat_natCast] at *; omega) | exact Dle.nil | exact Dle.rc Dle.nil | exact Option.some_ne_none _ | exact Or.inl rfl | exact Or.inr trivial | omega | (simp only [Int.toNat_natCast] at *; omega) | (intro _ _ _ _; exact Dle.of_eq rfl) | refine And.intro ?_ ?_)⟩, by first | omega | (dsimp only; omega)⟩
            | (exfalso; clear hn hs hsub hno hy hall hwk0 hkind hw hz hj2 hk1 hk2 hf hlen hln hK hK6 hi6 hA hM hC; first | grind | (simp only [Bool.and_eq_true, Bool.or_eq_true, decide_eq_true_eq, Bool.and_eq_false_iff, Bool.or_eq_false_iff, decide_eq_false_iff_not, Bool.false_eq, Bool.true_eq, eq_comm (a := true), eq_comm (a := false)] at hc1; grind))
            | trace_state
        · rw [hq] at hc1
          have hr := hn (hw (by unfold casc; rw [allN_no hjl (by rw [hq]; rfl)]; rfl))
          repeat' first
            | (refine codeW_cond rfl ?_; first | (refine condW_dec ?_ ?_ <;> intro _ <;> try (exfalso; omega)) | refine condW_not ?_ | (refine condW_bool ?_ ?_ <;> intro _ <;> try (exfalso; omega)))
            | (refine facW_intro ?_; intro _)
            | refine Or.inl ?_
            | ((conv => whnf); first | (refine condW_dec ?_ ?_ <;> intro _ <;> try (exfalso; omega)) | refine condW_not ?_ | (refine condW_bool ?_ ?_ <;> intro _ <;> try (exfalso; omega)) | (refine nbC_t (fun _ => ?_) ?_) | (refine nbC_f ?_ (fun _ => ?_)))
            | refine And.intro (by first | omega | (simp only [Int.toNat_natCast] at *; omega) | (simp only [Nat.reduceAdd, Int.cast_ofNat_Int, true_and, and_true]; omega) | kernel_rfl) ?_
            | refine RegW.run ?_
            | refine ⟨_, hk2, ?_⟩
            | fail
          all_goals first
            | exact Dle.bo hr.symm
            | (exfalso; clear hn hs hsub hno hy hall hwk0 hkind hw hz hj2 hk1 hk2 hf hlen hln hK hK6 hi6 hA hM hC; first | grind | (simp only [Bool.and_eq_true, Bool.or_eq_true, decide_eq_true_eq, Bool.and_eq_false_iff, Bool.or_eq_false_iff, decide_eq_false_iff_not, Bool.false_eq, Bool.true_eq, eq_comm (a := true), eq_comm (a := false)] at hc1; grind))
            | trace_state
      · obtain rfl : j = (v.items.getD ((k : Int)).toNat .zero).keys.length := by omega
        have hr := hs (hz (by unfold casc; rw [hj2]; rfl))
        repeat' first
          | (refine codeW_cond rfl ?_; first | (refine condW_dec ?_ ?_ <;> intro _ <;> try (exfalso; omega)) | refine condW_not ?_ | (refine condW_bool ?_ ?_ <;> intro _ <;> try (exfalso; omega)))
          | (refine facW_intro ?_; intro _)
          | refine Or.inl ?_
          | ((conv => whnf); first | (refine condW_dec ?_ ?_ <;> intro _ <;> try (exfalso; omega)) | refine condW_not ?_ | (refine condW_bool ?_ ?_ <;> intro _ <;> try (exfalso; omega)) | (refine nbC_t (fun _ => ?_) ?_) | (refine nbC_f ?_ (fun _ => ?_)))
          | refine And.intro (by first | omega | (simp only [Int.toNat_natCast] at *; omega) | (simp only [Nat.reduceAdd, Int.cast_ofNat_Int, true_and, and_true]; omega) | kernel_rfl) ?_
          | refine RegW.run ?_
          | fail
        all_goals first
          | exact ⟨k + 1, ⟨by omega, hr⟩, ⟨[], ⟨by kernel_rfl, by kernel_rfl, by kernel_rfl, by kernel_rfl, by kernel_rfl, by kernel_rfl, by kernel_rfl⟩, (by repeat' first | exact trivial | exact rfl | kernel_rfl | exact Dle.of_eq rfl | exact MLe.of_eq rfl | exact Dle.i (by omega) | exact Dle.i (by simp only [Int.toNat_natCast] at *; omega) | exact Dle.nil | exact Dle.rc Dle.nil | exact Option.some_ne_none _ | exact Or.inl rfl | exact Or.inr trivial | omega | (simp only [Int.toNat_natCast] at *; omega) | (intro _ _ _ _; exact Dle.of_eq rfl) | refine And.intro ?_ ?_)⟩, by first | omega | (dsimp only; omega)⟩
          | trace_state
    have hr := hs (by unfold wk wk0; rw [← hK, hwk0, decide_eq_false hA, decide_eq_false hM, decide_eq_false hC]; rfl)
    repeat' first
      | (refine codeW_cond rfl ?_; first | (refine condW_dec ?_ ?_ <;> intro _ <;> try (exfalso; first | omega | rename_i h; exact hA h | rename_i h; exact hM h | rename_i h; exact hC h)) | refine condW_not ?_ | (refine condW_bool ?_ ?_ <;> intro _ <;> try (exfalso; first | omega | rename_i h; exact hA h | rename_i h; exact hM h | rename_i h; exact hC h)))
      | (refine facW_intro ?_; intro _)
      | refine Or.inl ?_
      | ((conv => whnf); first | (refine condW_dec ?_ ?_ <;> intro _ <;> try (exfalso; first | omega | rename_i h; exact hA h | rename_i h; exact hM h | rename_i h; exact hC h)) | refine condW_not ?_ | (refine condW_bool ?_ ?_ <;> intro _ <;> try (exfalso; first | omega | rename_i h; exact hA h | rename_i h; exact hM h | rename_i h; exact hC h)) | (refine nbC_t (fun _ => ?_) ?_) | (refine nbC_f ?_ (fun _ => ?_)))
      | refine And.intro (by first | omega | (simp only [Int.toNat_natCast] at *; omega) | (simp only [Nat.reduceAdd, Int.cast_ofNat_Int, true_and, and_true]; omega) | kernel_rfl) ?_
      | refine RegW.run ?_
      | refine ⟨_, hk1, ?_⟩
      | fail
    all_goals first
      | exact ⟨k + 1, ⟨by omega, hr⟩, ⟨[], ⟨by kernel_rfl, by kernel_rfl, by kernel_rfl, by kernel_rfl, by kernel_rfl, by kernel_rfl, by kernel_rfl⟩, (by repeat' first | exact trivial | exact rfl | kernel_rfl | exact Dle.of_eq rfl | exact MLe.of_eq rfl | exact Dle.i (by omega) | exact Dle.i (by simp only [Int.toNat_natCast] at *; omega) | exact Dle.nil | exact Dle.rc Dle.nil | exact Option.some_ne_none _ | exact Or.inl rfl | exact Or.inr trivial | omega | (simp only [Int.toNat_natCast] at *; omega) | (intro _ _ _ _; exact Dle.of_eq rfl) | refine And.intro ?_ ?_)⟩, by first | omega | (dsimp only; omega)⟩
      | (exfalso; omega)
      | trace_state
  · obtain rfl : k = v.keys.length := by omega
    have hr := hy hall
    repeat' first
      | (refine codeW_cond rfl ?_; first | (refine condW_dec ?_ ?_ <;> intro _ <;> try (exfalso; omega)) | refine condW_not ?_ | (refine condW_bool ?_ ?_ <;> intro _ <;> try (exfalso; omega)))
      | (refine facW_intro ?_; intro _)
      | refine Or.inl ?_
      | ((conv => whnf); first | (refine condW_dec ?_ ?_ <;> intro _ <;> try (exfalso; omega)) | refine condW_not ?_ | (refine condW_bool ?_ ?_ <;> intro _ <;> try (exfalso; omega)) | (refine nbC_t (fun _ => ?_) ?_) | (refine nbC_f ?_ (fun _ => ?_)))
      | refine And.intro (by first | omega | (simp only [Int.toNat_natCast] at *; omega) | (simp only [Nat.reduceAdd, Int.cast_ofNat_Int, true_and, and_true]; omega) | kernel_rfl) ?_
      | refine RegW.run ?_
      | fail
    all_goals first
      | exact Dle.bo hr.symm
      | trace_state
end
end ts
end Go.Proofs.YtdpbgpkjlbdbfaaGreatDoor
