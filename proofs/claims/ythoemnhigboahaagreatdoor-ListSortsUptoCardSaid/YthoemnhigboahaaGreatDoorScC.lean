/-
  Stable sorting of a lent row of ints by slices.symMergeCmpFunc, under a closure with two captured variables, one on the right. (Printed by mk_sc6.py.) Stable sorting of a lent row of ints by slices.symMergeCmpFunc, under a closure with two captured variables, the whole. (Printed by mk_sc6.py.) Stable sorting of a lent row of ints by slices.stableCmpFunc and slices.SortStableFunc, under a closure with two captured variables. (Printed by mk_scC.py.)
-/
import Derived.Test.YthoemnhigboahaaGreatDoorSc6
import Derived.Test.YthoemnhigboahaaGreatDoorSb7
import Derived.Test.YthoemnhigboahaaGreatDoorSc8
import Derived.Test.YthoemnhigboahaaGreatDoorSc9
import Derived.Test.YthoemnhigboahaaGreatDoorSbB
namespace Go.Proofs.YthoemnhigboahaaGreatDoor
open Go.RowKit
set_option linter.unusedVariables false
set_option linter.unusedSimpArgs false
namespace sc
open sb
section
variable {lt : Nat → Nat → Bool}
section
variable (E : Env)
set_option maxRecDepth 100000
set_option maxHeartbeats 16000000 in
theorem symLastC (n u1 u2 u3 : Nat) (hn : n ≤ 1000000000) (kf : Nat → Nat → DD) (vl : List Vu) (g : Nat) (cf : Nat → Nat → Int) (hlv : ∀ x y, lt x y = decide (cf x y < 0)) (hw : Wk lt) (hl : CmpC E n u1 u2 u3 kf vl g cf) (π : Nat → Nat) (hπ : ∀ k, k < n → π k < n) (a m b : Nat) (ham' : a < m) (hmb' : m < b) (hb : (b : Int) ≤ n) (hM : Mg lt π a m b) (hc1 : ¬ m = a + 1) (hc2 : b = m + 1) :
    SpH (cx Tryz.prog mixed tyT_ok E) 130 [.own 2000 1 0 n, i64 a, i64 m, i64 b, clC g] (SHC n u1 u2 u3 kf vl π) (.tup []) (SHC n u1 u2 u3 kf vl (srt lt id π a b)) := by
  have h0 : (0 : Int) ≤ a := by omega
  have ham : (a : Int) < m := by omega
  have hmb : (m : Int) < b := by omega
  refine SpH.body Tryz.func130 (by kernel_rfl) rfl (by kernel_rfl) (by kernel_rfl) (by kernel_rfl) ?_
  repeat' first
    | (refine codeW_cond rfl ?_; first | (refine condW_dec ?_ ?_ <;> intro _ <;> try (exfalso; omega)) | refine condW_not ?_ | (refine condW_bool ?_ ?_ <;> intro _ <;> try (exfalso; omega)))
    | (refine facW_intro ?_; intro _)
    | refine Or.inl ?_
    | ((conv => whnf); first | (refine condW_dec ?_ ?_ <;> intro _ <;> try (exfalso; omega)) | refine condW_not ?_ | (refine condW_bool ?_ ?_ <;> intro _ <;> try (exfalso; omega)) | (refine nbC_t (fun _ => ?_) ?_) | (refine nbC_f ?_ (fun _ => ?_)))
    | refine And.intro (by first | omega | (simp only [Int.toNat_natCast] at *; omega) | (simp only [Nat.reduceAdd, Int.cast_ofNat_Int, true_and, and_true]; omega)  | kernel_rfl) ?_
    | refine RegW.run ?_
    | fail
  refine ⟨Nat × Nat, fun k => [(14, i64 k.1), (15, i64 k.2)], fun k => [], [2000, 2001, 2002], fun k => [], fun k => a ≤ k.1 ∧ k.1 ≤ k.2 ∧ k.2 ≤ m ∧ (∀ c, a ≤ c → c < k.1 → lt (π m) (π c) = false) ∧ ∀ c, k.2 ≤ c → c < m → lt (π m) (π c) = true, fun k => k.2 - k.1, ⟨(a, m), ⟨Nat.le_refl _, Nat.le_of_lt ham', Nat.le_refl _, fun q q1 q2 => absurd q2 (by show ¬ q < a; omega), fun q q1 q2 => absurd q1 (by show ¬ m ≤ q; omega)⟩, ⟨[], ⟨by kernel_rfl, by kernel_rfl, by kernel_rfl, by kernel_rfl, by kernel_rfl, by kernel_rfl, by kernel_rfl⟩, (by repeat' first | exact trivial | exact rfl | kernel_rfl | exact Dle.of_eq rfl | exact MLe.of_eq rfl | exact Dle.i (by omega) | exact Dle.i (by simp only [Int.toNat_natCast] at *; omega) | exact Dle.nil | exact Dle.rc Dle.nil | exact Option.some_ne_none _ | exact Or.inl rfl | exact Or.inr trivial | omega | (simp only [Int.toNat_natCast] at *; omega) | (intro _ _ _ _; exact Dle.of_eq rfl) | refine And.intro ?_ ?_)⟩⟩, fun k hk => ?_⟩
  obtain ⟨k1, k2, k3, k4, k5⟩ := hk
  have hmid := mid_eq (k.1 : Int) (k.2 : Int) (by omega) (by omega) (by omega)
  by_cases hlt : k.1 < k.2
  · have hl2 := hl (π (0 + ((m : Int)).toNat)) (π (0 + (IntKind.i64.wrap ((IntKind.u64.wrap ((k.1 : Int) + (k.2 : Int))).fdiv (2 ^ min (Int.toNat 1) IntKind.u64.bits))).toNat)) (hπ _ (by omega)) (hπ _ (by omega))
    have hv : cf (π (0 + ((m : Int)).toNat)) (π (0 + (IntKind.i64.wrap ((IntKind.u64.wrap ((k.1 : Int) + (k.2 : Int))).fdiv (2 ^ min (Int.toNat 1) IntKind.u64.bits))).toNat)) = cf (π m) (π ((k.1 + k.2) / 2)) := by
      rw [Nat.zero_add, Nat.zero_add, Int.toNat_natCast, show (IntKind.i64.wrap ((IntKind.u64.wrap ((k.1 : Int) + (k.2 : Int))).fdiv (2 ^ min (Int.toNat 1) IntKind.u64.bits))).toNat = (k.1 + k.2) / 2 by omega]
    obtain ⟨z, hz⟩ : ∃ z, z = cf (π m) (π ((k.1 + k.2) / 2)) := ⟨_, rfl⟩
    have hzl : lt (π m) (π ((k.1 + k.2) / 2)) = decide (z < 0) := by rw [hlv, ← hz]
    rw [hv, ← hz] at hl2
    clear hz hv
    have hnF : ¬ z < 0 → ∀ c, a ≤ c → c < (k.1 + k.2) / 2 + 1 → lt (π m) (π c) = false := fun hb c c1 c2 => hM.mono_not hw c1 (by omega : c ≤ (k.1 + k.2) / 2) (by omega) (Nat.le_refl _) (Nat.le_refl _) hmb' (by rw [hzl]; simpa using hb)
    have hnT : z < 0 → ∀ c, (k.1 + k.2) / 2 ≤ c → c < m → lt (π m) (π c) = true := fun hb c c1 c2 => hM.mono hw (by omega : a ≤ (k.1 + k.2) / 2) c1 c2 (Nat.le_refl _) (Nat.le_refl _) hmb' (by rw [hzl]; simpa using hb)
    clear hzl
    refine codeW_seqF rfl ?_
    refine codeW_seqF rfl ?_
    refine codeW_regF rfl ?_
    refine opsW_cons rfl (opN_move (d := i64 k.1) rfl rfl ?_)
    refine opsW_cons rfl (opN_move (d := i64 k.2) rfl rfl ?_)
    refine opsW_cons rfl (opN_bin (d := dB (decide ((k.1 : Int) < k.2))) rfl (fun _ => rfl) ?_)
    refine opsW_nil ?_
    refine codeW_cond (b := decide ((k.1 : Int) < k.2)) rfl ?_
    refine condW_dec ?_ ?_ <;> intro _ <;> try (exfalso; omega)
    repeat' first
      | refine Or.inr ⟨_, _, _, Or.inl (hl2), by kernel_rfl, (by repeat' first | exact trivial | exact rfl | kernel_rfl | exact Dle.of_eq rfl | exact MLe.of_eq rfl | exact Dle.i (by omega) | exact Dle.i (by simp only [Int.toNat_natCast] at *; omega) | exact Dle.nil | exact Dle.rc Dle.nil | exact Option.some_ne_none _ | exact Or.inl rfl | exact Or.inr trivial | omega | (simp only [Int.toNat_natCast] at *; omega) | (intro _ _ _ _; exact Dle.of_eq rfl) | refine And.intro ?_ ?_), ?_⟩
      | (refine codeW_cond rfl ?_; first | (refine condW_dec ?_ ?_ <;> intro _ <;> try (exfalso; omega)) | refine condW_not ?_ | (refine condW_bool ?_ ?_ <;> intro _ <;> try (exfalso; omega)))
      | (refine facW_intro ?_; intro _)
      | refine Or.inl ?_
      | ((conv => whnf); first | (refine condW_dec ?_ ?_ <;> intro _ <;> try (exfalso; omega)) | refine condW_not ?_ | (refine condW_bool ?_ ?_ <;> intro _ <;> try (exfalso; omega)) | (refine nbC_t (fun _ => ?_) ?_) | (refine nbC_f ?_ (fun _ => ?_)))
      | refine And.intro (by first | omega | (simp only [Int.toNat_natCast] at *; omega) | (simp only [Nat.reduceAdd, Int.cast_ofNat_Int, true_and, and_true]; omega)  | kernel_rfl) ?_
      | refine RegW.run ?_
      | fail
    all_goals first
      | (exfalso; omega)
      | (have hnext := hnF (by assumption); exact ⟨((k.1 + k.2) / 2 + 1, k.2), ⟨by show a ≤ (k.1 + k.2) / 2 + 1; omega, by show (k.1 + k.2) / 2 + 1 ≤ k.2; omega, k3, hnext, k5⟩, ⟨[], ⟨by kernel_rfl, by kernel_rfl, by kernel_rfl, by kernel_rfl, by kernel_rfl, by kernel_rfl, by kernel_rfl⟩, (by repeat' first | (exact Dle.i (by show _ = (((k.1 + k.2) / 2 + 1 : Nat) : Int); omega)) | exact trivial | exact rfl | kernel_rfl | exact Dle.of_eq rfl | exact MLe.of_eq rfl | exact Dle.i (by omega) | exact Dle.i (by simp only [Int.toNat_natCast] at *; omega) | exact Dle.nil | exact Dle.rc Dle.nil | exact Option.some_ne_none _ | exact Or.inl rfl | exact Or.inr trivial | omega | (simp only [Int.toNat_natCast] at *; omega) | (intro _ _ _ _; exact Dle.of_eq rfl) | refine And.intro ?_ ?_)⟩, by first | omega | (dsimp only; omega)⟩)
      | (have hnext := hnT (by assumption); exact ⟨(k.1, (k.1 + k.2) / 2), ⟨k1, by show k.1 ≤ (k.1 + k.2) / 2; omega, by show (k.1 + k.2) / 2 ≤ m; omega, k4, hnext⟩, ⟨[], ⟨by kernel_rfl, by kernel_rfl, by kernel_rfl, by kernel_rfl, by kernel_rfl, by kernel_rfl, by kernel_rfl⟩, (by repeat' first | (exact Dle.i (by show _ = (((k.1 + k.2) / 2 : Nat) : Int); omega)) | exact trivial | exact rfl | kernel_rfl | exact Dle.of_eq rfl | exact MLe.of_eq rfl | exact Dle.i (by omega) | exact Dle.i (by simp only [Int.toNat_natCast] at *; omega) | exact Dle.nil | exact Dle.rc Dle.nil | exact Option.some_ne_none _ | exact Or.inl rfl | exact Or.inr trivial | omega | (simp only [Int.toNat_natCast] at *; omega) | (intro _ _ _ _; exact Dle.of_eq rfl) | refine And.intro ?_ ?_)⟩, by first | omega | (dsimp only; omega)⟩)
      | trace_state
  · have hend := hM.last hw hc2 k1 (by omega) k4 (fun c c1 c2 => k5 c (by omega) c2)
    refine codeW_seqF rfl ?_
    refine codeW_seqF rfl ?_
    refine codeW_regF rfl ?_
    refine opsW_cons rfl (opN_move (d := i64 k.1) rfl rfl ?_)
    refine opsW_cons rfl (opN_move (d := i64 k.2) rfl rfl ?_)
    refine opsW_cons rfl (opN_bin (d := dB (decide ((k.1 : Int) < k.2))) rfl (fun _ => rfl) ?_)
    refine opsW_nil ?_
    refine codeW_cond (b := decide ((k.1 : Int) < k.2)) rfl ?_
    refine condW_dec ?_ ?_ <;> intro _ <;> try (exfalso; omega)
    repeat' first
      | (refine codeW_cond rfl ?_; first | (refine condW_dec ?_ ?_ <;> intro _ <;> try (exfalso; omega)) | refine condW_not ?_ | (refine condW_bool ?_ ?_ <;> intro _ <;> try (exfalso; omega)))
      | (refine facW_intro ?_; intro _)
      | refine Or.inl ?_
      | ((conv => whnf); first | (refine condW_dec ?_ ?_ <;> intro _ <;> try (exfalso; omega)) | refine condW_not ?_ | (refine condW_bool ?_ ?_ <;> intro _ <;> try (exfalso; omega)) | (refine nbC_t (fun _ => ?_) ?_) | (refine nbC_f ?_ (fun _ => ?_)))
      | refine And.intro (by first | omega | (simp only [Int.toNat_natCast] at *; omega) | (simp only [Nat.reduceAdd, Int.cast_ofNat_Int, true_and, and_true]; omega)  | kernel_rfl) ?_
      | refine RegW.run ?_
      | fail
    refine ⟨Nat, fun j => [(17, i64 j)], fun j => [(2000, .row 3 n (rwI (rot π j m (m + 1))))], [2001, 2002], fun j => [], fun j => k.1 ≤ j ∧ j ≤ m, fun j => j, ⟨m, ⟨by omega, Nat.le_refl _⟩, ⟨[], ⟨by kernel_rfl, by kernel_rfl, by kernel_rfl, by kernel_rfl, by kernel_rfl, by kernel_rfl, by kernel_rfl⟩, (by repeat' first | ((intro i' j' hi' hj'; rw [rot_none1]; exact Dle.refl _ _)) | exact trivial | exact rfl | kernel_rfl | exact Dle.of_eq rfl | exact MLe.of_eq rfl | exact Dle.i (by omega) | exact Dle.i (by simp only [Int.toNat_natCast] at *; omega) | exact Dle.nil | exact Dle.rc Dle.nil | exact Option.some_ne_none _ | exact Or.inl rfl | exact Or.inr trivial | omega | (simp only [Int.toNat_natCast] at *; omega) | (intro _ _ _ _; exact Dle.of_eq rfl) | refine And.intro ?_ ?_)⟩⟩, fun j hj => ?_⟩
    obtain ⟨j1, j2⟩ := hj
    have hin2 := rot_in (a := j) (m := m) (b := m + 1) hπ (by omega) (by omega) (by omega)
    by_cases hj3 : k.1 < j
    · have hsw : sb.swp (rot π j m (m + 1)) j (j - 1) = rot π (j - 1) m (m + 1) := rot_down j2 (by omega)
      have hrow : ∀ A B : Nat, ∀ x y : DD, A = j → B = j - 1 → x = i64 (((rot π j m (m + 1)) B : Nat)) → y = i64 (((rot π j m (m + 1)) A : Nat)) → ∀ i' j', i' < n → j' < 1 → Dle (cx Tryz.prog mixed tyT_ok E) (rowSet (rowSet (rwI (rot π j m (m + 1))) A 0 [x]) B 0 [y] i' j') (rwI (rot π (j - 1) m (m + 1)) i' j') := fun A B x y hA hB hx hy => by
        rw [← hsw]
        subst hA hB
        exact rw_swap E hx hy
      repeat' first
        | (refine codeW_cond rfl ?_; first | (refine condW_dec ?_ ?_ <;> intro _ <;> try (exfalso; omega)) | refine condW_not ?_ | (refine condW_bool ?_ ?_ <;> intro _ <;> try (exfalso; omega)))
        | (refine facW_intro ?_; intro _)
        | refine Or.inl ?_
        | ((conv => whnf); first | (refine condW_dec ?_ ?_ <;> intro _ <;> try (exfalso; omega)) | refine condW_not ?_ | (refine condW_bool ?_ ?_ <;> intro _ <;> try (exfalso; omega)) | (refine nbC_t (fun _ => ?_) ?_) | (refine nbC_f ?_ (fun _ => ?_)))
        | refine And.intro (by first | omega | (simp only [Int.toNat_natCast] at *; omega) | (simp only [Nat.reduceAdd, Int.cast_ofNat_Int, true_and, and_true]; omega)  | kernel_rfl) ?_
        | refine RegW.run ?_
        | fail
      all_goals first
        | (exfalso; omega)
        | exact ⟨j - 1, by omega, ⟨[], ⟨by kernel_rfl, by kernel_rfl, by kernel_rfl, by kernel_rfl, by kernel_rfl, by kernel_rfl, by kernel_rfl⟩, (by repeat' first | (first | exact hrow _ _ _ _ (by omega) (by omega) rfl rfl | exact Dle.i (by omega)) | exact trivial | exact rfl | kernel_rfl | exact Dle.of_eq rfl | exact MLe.of_eq rfl | exact Dle.i (by omega) | exact Dle.i (by simp only [Int.toNat_natCast] at *; omega) | exact Dle.nil | exact Dle.rc Dle.nil | exact Option.some_ne_none _ | exact Or.inl rfl | exact Or.inr trivial | omega | (simp only [Int.toNat_natCast] at *; omega) | (intro _ _ _ _; exact Dle.of_eq rfl) | refine And.intro ?_ ?_)⟩, by first | omega | (dsimp only; omega)⟩
        | trace_state
    · have hje : j = k.1 := by omega
      repeat' first
        | (refine codeW_cond rfl ?_; first | (refine condW_dec ?_ ?_ <;> intro _ <;> try (exfalso; omega)) | refine condW_not ?_ | (refine condW_bool ?_ ?_ <;> intro _ <;> try (exfalso; omega)))
        | (refine facW_intro ?_; intro _)
        | refine Or.inl ?_
        | ((conv => whnf); first | (refine condW_dec ?_ ?_ <;> intro _ <;> try (exfalso; omega)) | refine condW_not ?_ | (refine condW_bool ?_ ?_ <;> intro _ <;> try (exfalso; omega)) | (refine nbC_t (fun _ => ?_) ?_) | (refine nbC_f ?_ (fun _ => ?_)))
        | refine And.intro (by first | omega | (simp only [Int.toNat_natCast] at *; omega) | (simp only [Nat.reduceAdd, Int.cast_ofNat_Int, true_and, and_true]; omega)  | kernel_rfl) ?_
        | refine RegW.run ?_
        | fail
      all_goals first
        | (exfalso; omega)
        | exact ⟨[(2000, .row 3 n (rwI (srt lt id π a b))), (2001, .cells [.sl u1 u2 u3 kf]), (2002, .cells [.rc (.vals vl)])], [], rfl, ⟨[], ⟨by kernel_rfl, by kernel_rfl, by kernel_rfl, by kernel_rfl, by kernel_rfl, by kernel_rfl, by kernel_rfl⟩, (by repeat' first | ((intro i' j' hi' hj'; rw [hend, hje]; exact Dle.refl _ _)) | exact trivial | exact rfl | kernel_rfl | exact Dle.of_eq rfl | exact MLe.of_eq rfl | exact Dle.i (by omega) | exact Dle.i (by simp only [Int.toNat_natCast] at *; omega) | exact Dle.nil | exact Dle.rc Dle.nil | exact Option.some_ne_none _ | exact Or.inl rfl | exact Or.inr trivial | omega | (simp only [Int.toNat_natCast] at *; omega) | (intro _ _ _ _; exact Dle.of_eq rfl) | refine And.intro ?_ ?_)⟩, rfl⟩
        | trace_state

end
end
end sc
end Go.Proofs.YthoemnhigboahaaGreatDoor
namespace Go.Proofs.YthoemnhigboahaaGreatDoor
open Go.RowKit
set_option linter.unusedVariables false
set_option linter.unusedSimpArgs false
namespace sc
open sb
section
variable {lt : Nat → Nat → Bool}
section
variable (E : Env)
set_option maxRecDepth 100000
theorem symMerge_c (n u1 u2 u3 : Nat) (hn : n ≤ 1000000000) (kf : Nat → Nat → DD) (vl : List Vu) (g : Nat) (cf : Nat → Nat → Int) (hlv : ∀ x y, lt x y = decide (cf x y < 0)) (hw : Wk lt) (hl : CmpC E n u1 u2 u3 kf vl g cf) : ∀ N, SymAC E n u1 u2 u3 kf vl g lt N
  | 0 => fun π _ a m b _ h1 h2 _ h3 _ => absurd h3 (by omega)
  | N + 1 => fun π hπ a m b h0 ham hmb hb hN hM => by
    have ih := symMerge_c n u1 u2 u3 hn kf vl g cf hlv hw hl N
    obtain ⟨a, rfl⟩ : ∃ x : Nat, a = x := ⟨a.toNat, by omega⟩
    obtain ⟨b, rfl⟩ : ∃ x : Nat, b = x := ⟨b.toNat, by omega⟩
    obtain ⟨m, rfl⟩ : ∃ x : Nat, m = x := ⟨m.toNat, by omega⟩
    rw [Int.toNat_natCast, Int.toNat_natCast] at *
    rw [Int.toNat_natCast] at hM
    by_cases hc1 : m = a + 1
    · exact symOneC E n u1 u2 u3 hn kf vl g cf hlv hw hl π hπ a m b (by omega) (by omega) hb hM hc1
    · by_cases hc2 : b = m + 1
      · exact symLastC E n u1 u2 u3 hn kf vl g cf hlv hw hl π hπ a m b (by omega) (by omega) hb hM hc1 hc2
      · by_cases hmm : (a + b) / 2 < m
        · exact symCutLC E n u1 u2 u3 hn kf vl g cf hlv hw hl π hπ a m b (by omega) (by omega) hb hM hc1 hc2 N hN ih _ rfl hmm
        · exact symCutRC E n u1 u2 u3 hn kf vl g cf hlv hw hl π hπ a m b (by omega) (by omega) hb hM hc1 hc2 N hN ih _ rfl hmm
end
end
end sc
end Go.Proofs.YthoemnhigboahaaGreatDoor
namespace Go.Proofs.YthoemnhigboahaaGreatDoor
open Go.RowKit
set_option linter.unusedVariables false
set_option linter.unusedSimpArgs false
namespace sc
open sb
section
variable {lt : Nat → Nat → Bool}
section
variable (E : Env)
set_option maxRecDepth 100000
set_option maxHeartbeats 8000000 in
theorem stable_c (n u1 u2 u3 : Nat) (hn : n ≤ 1000000000) (kf : Nat → Nat → DD) (vl : List Vu) (g : Nat) (cf : Nat → Nat → Int) (hlv : ∀ x y, lt x y = decide (cf x y < 0)) (hw : Wk lt) (hl : CmpC E n u1 u2 u3 kf vl g cf) :
    SpH (cx Tryz.prog mixed tyT_ok E) 97 [.own 2000 1 0 n, i64 n, clC g] (SHC n u1 u2 u3 kf vl id) (.tup []) (SHC n u1 u2 u3 kf vl (sA lt 0 n)) := by
  have hls : (fun x y => decide (cf x y < 0)) = lt := by funext x y; exact (hlv x y).symm
  have h0 : beg lt n 0 = id := by
    funext k
    unfold beg
    rw [if_neg (by omega)]
    rfl
  refine SpH.body Tryz.func97 (by kernel_rfl) rfl (by kernel_rfl) (by kernel_rfl) (by kernel_rfl) ?_
  repeat' first
    | (refine codeW_cond rfl ?_; first | (refine condW_dec ?_ ?_ <;> intro _ <;> try (exfalso; omega)) | refine condW_not ?_ | (refine condW_bool ?_ ?_ <;> intro _ <;> try (exfalso; omega)))
    | (refine facW_intro ?_; intro _)
    | refine Or.inl ?_
    | ((conv => whnf); first | (refine condW_dec ?_ ?_ <;> intro _ <;> try (exfalso; omega)) | refine condW_not ?_ | (refine condW_bool ?_ ?_ <;> intro _ <;> try (exfalso; omega)) | (refine nbC_t (fun _ => ?_) ?_) | (refine nbC_f ?_ (fun _ => ?_)))
    | refine And.intro (by first | omega | (simp only [Int.toNat_natCast] at *; omega) | (simp only [Nat.reduceAdd, Int.cast_ofNat_Int, true_and, and_true]; omega)  | kernel_rfl) ?_
    | refine RegW.run ?_
    | fail
  refine ⟨Nat, fun A => [(7, i64 A), (8, i64 (A + 20))], fun A => [(2000, .row 3 n (rwI (beg lt n A)))], [2001, 2002], fun A => [], fun A => A ≤ n ∧ ∃ c, A = c * 20, fun A => n - A, ⟨0, ⟨Nat.zero_le _, 0, rfl⟩, ⟨[], ⟨by kernel_rfl, by kernel_rfl, by kernel_rfl, by kernel_rfl, by kernel_rfl, by kernel_rfl, by kernel_rfl⟩, (by repeat' first | (first | (intro i' j' hi' hj'; rw [h0]; exact Dle.refl _ _) | exact Dle.i (by omega)) | exact trivial | exact rfl | kernel_rfl | exact Dle.of_eq rfl | exact MLe.of_eq rfl | exact Dle.i (by omega) | exact Dle.i (by simp only [Int.toNat_natCast] at *; omega) | exact Dle.nil | exact Dle.rc Dle.nil | exact Option.some_ne_none _ | exact Or.inl rfl | exact Or.inr trivial | omega | (simp only [Int.toNat_natCast] at *; omega) | (intro _ _ _ _; exact Dle.of_eq rfl) | refine And.intro ?_ ?_)⟩⟩, fun A hA => ?_⟩
  obtain ⟨a1, c, a2⟩ := hA
  have hbi := beg_in (lt := lt) hw a1
  by_cases hA2 : A + 20 ≤ n
  · have hins : SpH (cx Tryz.prog mixed tyT_ok E) 129 [.own 2000 1 0 n, i64 A, i64 (A + 20), clC g] (SHC n u1 u2 u3 kf vl (beg lt n A)) (.tup []) (SHC n u1 u2 u3 kf vl (beg lt n (A + 20))) := by
      have := insSort_c E n u1 u2 u3 hn kf vl g cf (by rw [hls]; exact hw) hl (beg lt n A) hbi (A : Int) ((A : Int) + 20) (by omega) (by omega) (by omega) (fun k l k1 k2 k3 => by
        unfold beg
        rw [if_neg (by omega), if_neg (by omega)]
        exact k2)
      rw [hls] at this
      rwa [Int.toNat_natCast, show ((A : Int) + 20).toNat = A + 20 by omega, beg_step hw a2 hA2] at this
    repeat' first
      | refine Or.inr ⟨_, _, _, Or.inl (hins), by kernel_rfl, (by repeat' first | exact trivial | exact rfl | kernel_rfl | exact Dle.of_eq rfl | exact MLe.of_eq rfl | exact Dle.i (by omega) | exact Dle.i (by simp only [Int.toNat_natCast] at *; omega) | exact Dle.nil | exact Dle.rc Dle.nil | exact Option.some_ne_none _ | exact Or.inl rfl | exact Or.inr trivial | omega | (simp only [Int.toNat_natCast] at *; omega) | (intro _ _ _ _; exact Dle.of_eq rfl) | refine And.intro ?_ ?_), ?_⟩
      | (refine codeW_cond rfl ?_; first | (refine condW_dec ?_ ?_ <;> intro _ <;> try (exfalso; omega)) | refine condW_not ?_ | (refine condW_bool ?_ ?_ <;> intro _ <;> try (exfalso; omega)))
      | (refine facW_intro ?_; intro _)
      | refine Or.inl ?_
      | ((conv => whnf); first | (refine condW_dec ?_ ?_ <;> intro _ <;> try (exfalso; omega)) | refine condW_not ?_ | (refine condW_bool ?_ ?_ <;> intro _ <;> try (exfalso; omega)) | (refine nbC_t (fun _ => ?_) ?_) | (refine nbC_f ?_ (fun _ => ?_)))
      | refine And.intro (by first | omega | (simp only [Int.toNat_natCast] at *; omega) | (simp only [Nat.reduceAdd, Int.cast_ofNat_Int, true_and, and_true]; omega)  | kernel_rfl) ?_
      | refine RegW.run ?_
      | fail
    all_goals first
      | (exfalso; omega)
      | exact ⟨A + 20, ⟨hA2, c + 1, by omega⟩, ⟨[], ⟨by kernel_rfl, by kernel_rfl, by kernel_rfl, by kernel_rfl, by kernel_rfl, by kernel_rfl, by kernel_rfl⟩, (by repeat' first | (exact Dle.i (by omega)) | exact trivial | exact rfl | kernel_rfl | exact Dle.of_eq rfl | exact MLe.of_eq rfl | exact Dle.i (by omega) | exact Dle.i (by simp only [Int.toNat_natCast] at *; omega) | exact Dle.nil | exact Dle.rc Dle.nil | exact Option.some_ne_none _ | exact Or.inl rfl | exact Or.inr trivial | omega | (simp only [Int.toNat_natCast] at *; omega) | (intro _ _ _ _; exact Dle.of_eq rfl) | refine And.intro ?_ ?_)⟩, by first | omega | (dsimp only; omega)⟩
      | trace_state
  · have hins : SpH (cx Tryz.prog mixed tyT_ok E) 129 [.own 2000 1 0 n, i64 A, i64 n, clC g] (SHC n u1 u2 u3 kf vl (beg lt n A)) (.tup []) (SHC n u1 u2 u3 kf vl (mix lt n 20 0)) := by
      have := insSort_c E n u1 u2 u3 hn kf vl g cf (by rw [hls]; exact hw) hl (beg lt n A) hbi (A : Int) (n : Int) (by omega) (by omega) (by omega) (fun k l k1 k2 k3 => by
        unfold beg
        rw [if_neg (by omega), if_neg (by omega)]
        exact k2)
      rw [hls] at this
      rwa [Int.toNat_natCast, Int.toNat_natCast, beg_last hw a2 a1 (by omega)] at this
    repeat' first
      | refine Or.inr ⟨_, _, _, Or.inl (hins), by kernel_rfl, (by repeat' first | exact trivial | exact rfl | kernel_rfl | exact Dle.of_eq rfl | exact MLe.of_eq rfl | exact Dle.i (by omega) | exact Dle.i (by simp only [Int.toNat_natCast] at *; omega) | exact Dle.nil | exact Dle.rc Dle.nil | exact Option.some_ne_none _ | exact Or.inl rfl | exact Or.inr trivial | omega | (simp only [Int.toNat_natCast] at *; omega) | (intro _ _ _ _; exact Dle.of_eq rfl) | refine And.intro ?_ ?_), ?_⟩
      | (refine codeW_cond rfl ?_; first | (refine condW_dec ?_ ?_ <;> intro _ <;> try (exfalso; omega)) | refine condW_not ?_ | (refine condW_bool ?_ ?_ <;> intro _ <;> try (exfalso; omega)))
      | (refine facW_intro ?_; intro _)
      | refine Or.inl ?_
      | ((conv => whnf); first | (refine condW_dec ?_ ?_ <;> intro _ <;> try (exfalso; omega)) | refine condW_not ?_ | (refine condW_bool ?_ ?_ <;> intro _ <;> try (exfalso; omega)) | (refine nbC_t (fun _ => ?_) ?_) | (refine nbC_f ?_ (fun _ => ?_)))
      | refine And.intro (by first | omega | (simp only [Int.toNat_natCast] at *; omega) | (simp only [Nat.reduceAdd, Int.cast_ofNat_Int, true_and, and_true]; omega)  | kernel_rfl) ?_
      | refine RegW.run ?_
      | fail
    refine ⟨Nat, fun s => [(6, i64 s)], fun s => [(2000, .row 3 n (rwI (mix lt n s 0)))], [2001, 2002], fun s => [], fun s => 20 ≤ s ∧ s ≤ 2 * n + 40, fun s => n - s, ⟨20, by omega, ⟨[], ⟨by kernel_rfl, by kernel_rfl, by kernel_rfl, by kernel_rfl, by kernel_rfl, by kernel_rfl, by kernel_rfl⟩, (by repeat' first | exact trivial | exact rfl | kernel_rfl | exact Dle.of_eq rfl | exact MLe.of_eq rfl | exact Dle.i (by omega) | exact Dle.i (by simp only [Int.toNat_natCast] at *; omega) | exact Dle.nil | exact Dle.rc Dle.nil | exact Option.some_ne_none _ | exact Or.inl rfl | exact Or.inr trivial | omega | (simp only [Int.toNat_natCast] at *; omega) | (intro _ _ _ _; exact Dle.of_eq rfl) | refine And.intro ?_ ?_)⟩⟩, fun s hs => ?_⟩
    obtain ⟨s1, s2⟩ := hs
    by_cases hsn : s < n
    · repeat' first
        | (refine codeW_cond rfl ?_; first | (refine condW_dec ?_ ?_ <;> intro _ <;> try (exfalso; omega)) | refine condW_not ?_ | (refine condW_bool ?_ ?_ <;> intro _ <;> try (exfalso; omega)))
        | (refine facW_intro ?_; intro _)
        | refine Or.inl ?_
        | ((conv => whnf); first | (refine condW_dec ?_ ?_ <;> intro _ <;> try (exfalso; omega)) | refine condW_not ?_ | (refine condW_bool ?_ ?_ <;> intro _ <;> try (exfalso; omega)) | (refine nbC_t (fun _ => ?_) ?_) | (refine nbC_f ?_ (fun _ => ?_)))
        | refine And.intro (by first | omega | (simp only [Int.toNat_natCast] at *; omega) | (simp only [Nat.reduceAdd, Int.cast_ofNat_Int, true_and, and_true]; omega)  | kernel_rfl) ?_
        | refine RegW.run ?_
        | fail
      refine ⟨Nat, fun B => [(7, i64 B), (8, i64 (B + 2 * s))], fun B => [(2000, .row 3 n (rwI (mix lt n s B)))], [2001, 2002], fun B => [], fun B => B ≤ n ∧ ∃ c, B = c * (2 * s), fun B => n - B, ⟨0, ⟨Nat.zero_le _, 0, by omega⟩, ⟨[], ⟨by kernel_rfl, by kernel_rfl, by kernel_rfl, by kernel_rfl, by kernel_rfl, by kernel_rfl, by kernel_rfl⟩, (by repeat' first | (exact Dle.i (by omega)) | exact trivial | exact rfl | kernel_rfl | exact Dle.of_eq rfl | exact MLe.of_eq rfl | exact Dle.i (by omega) | exact Dle.i (by simp only [Int.toNat_natCast] at *; omega) | exact Dle.nil | exact Dle.rc Dle.nil | exact Option.some_ne_none _ | exact Or.inl rfl | exact Or.inr trivial | omega | (simp only [Int.toNat_natCast] at *; omega) | (intro _ _ _ _; exact Dle.of_eq rfl) | refine And.intro ?_ ?_)⟩⟩, fun B hB => ?_⟩
      obtain ⟨b1, d, b2⟩ := hB
      have hmi := mix_in (lt := lt) hw (n := n) (s := s) (a := B) (by omega)
      by_cases hB2 : B + 2 * s ≤ n
      · have hmg : SpH (cx Tryz.prog mixed tyT_ok E) 130 [.own 2000 1 0 n, i64 B, i64 (B + s), i64 (B + 2 * s), clC g] (SHC n u1 u2 u3 kf vl (mix lt n s B)) (.tup []) (SHC n u1 u2 u3 kf vl (mix lt n s (B + 2 * s))) := by
          have := symMerge_c E n u1 u2 u3 hn kf vl g cf hlv hw hl (n + 1) (mix lt n s B) hmi (B : Int) ((B : Int) + s) ((B : Int) + 2 * s) (by omega) (by omega) (by omega) (by omega) (by omega) (by
            rw [Int.toNat_natCast, show ((B : Int) + s).toNat = B + s by omega, show ((B : Int) + 2 * s).toNat = B + 2 * s by omega]
            exact mix_mg hw (by omega) b2 (by omega) (Nat.le_refl _) hB2 (.inl rfl))
          rwa [Int.toNat_natCast, show ((B : Int) + 2 * s).toNat = B + 2 * s by omega, mix_step hw (by omega) b2 hB2] at this
        repeat' first
          | refine Or.inr ⟨_, _, _, Or.inl (hmg), by kernel_rfl, (by repeat' first | exact trivial | exact rfl | kernel_rfl | exact Dle.of_eq rfl | exact MLe.of_eq rfl | exact Dle.i (by omega) | exact Dle.i (by simp only [Int.toNat_natCast] at *; omega) | exact Dle.nil | exact Dle.rc Dle.nil | exact Option.some_ne_none _ | exact Or.inl rfl | exact Or.inr trivial | omega | (simp only [Int.toNat_natCast] at *; omega) | (intro _ _ _ _; exact Dle.of_eq rfl) | refine And.intro ?_ ?_), ?_⟩
          | (refine codeW_cond rfl ?_; first | (refine condW_dec ?_ ?_ <;> intro _ <;> try (exfalso; omega)) | refine condW_not ?_ | (refine condW_bool ?_ ?_ <;> intro _ <;> try (exfalso; omega)))
          | (refine facW_intro ?_; intro _)
          | refine Or.inl ?_
          | ((conv => whnf); first | (refine condW_dec ?_ ?_ <;> intro _ <;> try (exfalso; omega)) | refine condW_not ?_ | (refine condW_bool ?_ ?_ <;> intro _ <;> try (exfalso; omega)) | (refine nbC_t (fun _ => ?_) ?_) | (refine nbC_f ?_ (fun _ => ?_)))
          | refine And.intro (by first | omega | (simp only [Int.toNat_natCast] at *; omega) | (simp only [Nat.reduceAdd, Int.cast_ofNat_Int, true_and, and_true]; omega)  | kernel_rfl) ?_
          | refine RegW.run ?_
          | fail
        all_goals first
          | (exfalso; omega)
          | exact ⟨B + 2 * s, ⟨hB2, d + 1, by rw [Nat.add_mul, Nat.one_mul, b2]⟩, ⟨[], ⟨by kernel_rfl, by kernel_rfl, by kernel_rfl, by kernel_rfl, by kernel_rfl, by kernel_rfl, by kernel_rfl⟩, (by repeat' first | (exact Dle.i (by omega)) | exact trivial | exact rfl | kernel_rfl | exact Dle.of_eq rfl | exact MLe.of_eq rfl | exact Dle.i (by omega) | exact Dle.i (by simp only [Int.toNat_natCast] at *; omega) | exact Dle.nil | exact Dle.rc Dle.nil | exact Option.some_ne_none _ | exact Or.inl rfl | exact Or.inr trivial | omega | (simp only [Int.toNat_natCast] at *; omega) | (intro _ _ _ _; exact Dle.of_eq rfl) | refine And.intro ?_ ?_)⟩, by first | omega | (dsimp only; omega)⟩
          | trace_state
      · by_cases hm : B + s < n
        · have hmg : SpH (cx Tryz.prog mixed tyT_ok E) 130 [.own 2000 1 0 n, i64 B, i64 (B + s), i64 n, clC g] (SHC n u1 u2 u3 kf vl (mix lt n s B)) (.tup []) (SHC n u1 u2 u3 kf vl (mix lt n (2 * s) 0)) := by
            have := symMerge_c E n u1 u2 u3 hn kf vl g cf hlv hw hl (n + 1) (mix lt n s B) hmi (B : Int) ((B : Int) + s) (n : Int) (by omega) (by omega) (by omega) (by omega) (by omega) (by
              rw [Int.toNat_natCast, Int.toNat_natCast, show ((B : Int) + s).toNat = B + s by omega]
              exact mix_mg hw (by omega) b2 hm (by omega) (Nat.le_refl _) (.inr rfl))
            rwa [Int.toNat_natCast, Int.toNat_natCast, mix_last hw (by omega) b2 hm (by omega)] at this
          repeat' first
            | refine Or.inr ⟨_, _, _, Or.inl (hmg), by kernel_rfl, (by repeat' first | exact trivial | exact rfl | kernel_rfl | exact Dle.of_eq rfl | exact MLe.of_eq rfl | exact Dle.i (by omega) | exact Dle.i (by simp only [Int.toNat_natCast] at *; omega) | exact Dle.nil | exact Dle.rc Dle.nil | exact Option.some_ne_none _ | exact Or.inl rfl | exact Or.inr trivial | omega | (simp only [Int.toNat_natCast] at *; omega) | (intro _ _ _ _; exact Dle.of_eq rfl) | refine And.intro ?_ ?_), ?_⟩
            | (refine codeW_cond rfl ?_; first | (refine condW_dec ?_ ?_ <;> intro _ <;> try (exfalso; omega)) | refine condW_not ?_ | (refine condW_bool ?_ ?_ <;> intro _ <;> try (exfalso; omega)))
            | (refine facW_intro ?_; intro _)
            | refine Or.inl ?_
            | ((conv => whnf); first | (refine condW_dec ?_ ?_ <;> intro _ <;> try (exfalso; omega)) | refine condW_not ?_ | (refine condW_bool ?_ ?_ <;> intro _ <;> try (exfalso; omega)) | (refine nbC_t (fun _ => ?_) ?_) | (refine nbC_f ?_ (fun _ => ?_)))
            | refine And.intro (by first | omega | (simp only [Int.toNat_natCast] at *; omega) | (simp only [Nat.reduceAdd, Int.cast_ofNat_Int, true_and, and_true]; omega)  | kernel_rfl) ?_
            | refine RegW.run ?_
            | fail
          all_goals first
            | (exfalso; omega)
            | exact ⟨2 * s, by omega, ⟨[], ⟨by kernel_rfl, by kernel_rfl, by kernel_rfl, by kernel_rfl, by kernel_rfl, by kernel_rfl, by kernel_rfl⟩, (by repeat' first | (exact Dle.i (by omega)) | exact trivial | exact rfl | kernel_rfl | exact Dle.of_eq rfl | exact MLe.of_eq rfl | exact Dle.i (by omega) | exact Dle.i (by simp only [Int.toNat_natCast] at *; omega) | exact Dle.nil | exact Dle.rc Dle.nil | exact Option.some_ne_none _ | exact Or.inl rfl | exact Or.inr trivial | omega | (simp only [Int.toNat_natCast] at *; omega) | (intro _ _ _ _; exact Dle.of_eq rfl) | refine And.intro ?_ ?_)⟩, by first | omega | (dsimp only; omega)⟩
            | trace_state
        · have hno := mix_none (lt := lt) (n := n) (by omega : 0 < s) b2 (by omega) b1
          repeat' first
            | (refine codeW_cond rfl ?_; first | (refine condW_dec ?_ ?_ <;> intro _ <;> try (exfalso; omega)) | refine condW_not ?_ | (refine condW_bool ?_ ?_ <;> intro _ <;> try (exfalso; omega)))
            | (refine facW_intro ?_; intro _)
            | refine Or.inl ?_
            | ((conv => whnf); first | (refine condW_dec ?_ ?_ <;> intro _ <;> try (exfalso; omega)) | refine condW_not ?_ | (refine condW_bool ?_ ?_ <;> intro _ <;> try (exfalso; omega)) | (refine nbC_t (fun _ => ?_) ?_) | (refine nbC_f ?_ (fun _ => ?_)))
            | refine And.intro (by first | omega | (simp only [Int.toNat_natCast] at *; omega) | (simp only [Nat.reduceAdd, Int.cast_ofNat_Int, true_and, and_true]; omega)  | kernel_rfl) ?_
            | refine RegW.run ?_
            | fail
          all_goals first
            | (exfalso; omega)
            | exact ⟨2 * s, by omega, ⟨[], ⟨by kernel_rfl, by kernel_rfl, by kernel_rfl, by kernel_rfl, by kernel_rfl, by kernel_rfl, by kernel_rfl⟩, (by repeat' first | (first | (intro i' j' hi' hj'; rw [hno]; exact Dle.refl _ _) | exact Dle.i (by omega)) | exact trivial | exact rfl | kernel_rfl | exact Dle.of_eq rfl | exact MLe.of_eq rfl | exact Dle.i (by omega) | exact Dle.i (by simp only [Int.toNat_natCast] at *; omega) | exact Dle.nil | exact Dle.rc Dle.nil | exact Option.some_ne_none _ | exact Or.inl rfl | exact Or.inr trivial | omega | (simp only [Int.toNat_natCast] at *; omega) | (intro _ _ _ _; exact Dle.of_eq rfl) | refine And.intro ?_ ?_)⟩, by first | omega | (dsimp only; omega)⟩
            | trace_state
    · have hend := mix_end (lt := lt) hw (by omega : 0 < s) (by omega : n ≤ s)
      repeat' first
        | (refine codeW_cond rfl ?_; first | (refine condW_dec ?_ ?_ <;> intro _ <;> try (exfalso; omega)) | refine condW_not ?_ | (refine condW_bool ?_ ?_ <;> intro _ <;> try (exfalso; omega)))
        | (refine facW_intro ?_; intro _)
        | refine Or.inl ?_
        | ((conv => whnf); first | (refine condW_dec ?_ ?_ <;> intro _ <;> try (exfalso; omega)) | refine condW_not ?_ | (refine condW_bool ?_ ?_ <;> intro _ <;> try (exfalso; omega)) | (refine nbC_t (fun _ => ?_) ?_) | (refine nbC_f ?_ (fun _ => ?_)))
        | refine And.intro (by first | omega | (simp only [Int.toNat_natCast] at *; omega) | (simp only [Nat.reduceAdd, Int.cast_ofNat_Int, true_and, and_true]; omega)  | kernel_rfl) ?_
        | refine RegW.run ?_
        | fail
      all_goals first
        | (exfalso; omega)
        | exact ⟨[(2000, .row 3 n (rwI (sA lt 0 n))), (2001, .cells [.sl u1 u2 u3 kf]), (2002, .cells [.rc (.vals vl)])], [], rfl, ⟨[], ⟨by kernel_rfl, by kernel_rfl, by kernel_rfl, by kernel_rfl, by kernel_rfl, by kernel_rfl, by kernel_rfl⟩, (by repeat' first | ((intro i' j' hi' hj'; rw [hend]; exact Dle.refl _ _)) | exact trivial | exact rfl | kernel_rfl | exact Dle.of_eq rfl | exact MLe.of_eq rfl | exact Dle.i (by omega) | exact Dle.i (by simp only [Int.toNat_natCast] at *; omega) | exact Dle.nil | exact Dle.rc Dle.nil | exact Option.some_ne_none _ | exact Or.inl rfl | exact Or.inr trivial | omega | (simp only [Int.toNat_natCast] at *; omega) | (intro _ _ _ _; exact Dle.of_eq rfl) | refine And.intro ?_ ?_)⟩, rfl⟩
        | trace_state
set_option maxHeartbeats 2000000 in
theorem sortStable_c (n u1 u2 u3 : Nat) (hn : n ≤ 1000000000) (kf : Nat → Nat → DD) (vl : List Vu) (g : Nat) (cf : Nat → Nat → Int) (hlv : ∀ x y, lt x y = decide (cf x y < 0)) (hw : Wk lt) (hl : CmpC E n u1 u2 u3 kf vl g cf) :
    SpH (cx Tryz.prog mixed tyT_ok E) 50 [.own 2000 1 0 n, clC g] (SHC n u1 u2 u3 kf vl id) (.tup []) (SHC n u1 u2 u3 kf vl (sA lt 0 n)) := by
  have hs := stable_c E n u1 u2 u3 hn kf vl g cf hlv hw hl
  refine SpH.body Tryz.func50 (by kernel_rfl) rfl (by kernel_rfl) (by kernel_rfl) (by kernel_rfl) ?_
  repeat' first
    | refine Or.inr ⟨_, _, _, Or.inl (hs), by kernel_rfl, (by repeat' first | exact trivial | exact rfl | kernel_rfl | exact Dle.of_eq rfl | exact MLe.of_eq rfl | exact Dle.i (by omega) | exact Dle.i (by simp only [Int.toNat_natCast] at *; omega) | exact Dle.nil | exact Dle.rc Dle.nil | exact Option.some_ne_none _ | exact Or.inl rfl | exact Or.inr trivial | omega | (simp only [Int.toNat_natCast] at *; omega) | (intro _ _ _ _; exact Dle.of_eq rfl) | refine And.intro ?_ ?_), ?_⟩
    | (refine codeW_cond rfl ?_; first | (refine condW_dec ?_ ?_ <;> intro _ <;> try (exfalso; omega)) | refine condW_not ?_ | (refine condW_bool ?_ ?_ <;> intro _ <;> try (exfalso; omega)))
    | (refine facW_intro ?_; intro _)
    | refine Or.inl ?_
    | ((conv => whnf); first | (refine condW_dec ?_ ?_ <;> intro _ <;> try (exfalso; omega)) | refine condW_not ?_ | (refine condW_bool ?_ ?_ <;> intro _ <;> try (exfalso; omega)) | (refine nbC_t (fun _ => ?_) ?_) | (refine nbC_f ?_ (fun _ => ?_)))
    | refine And.intro (by first | omega | (simp only [Int.toNat_natCast] at *; omega) | (simp only [Nat.reduceAdd, Int.cast_ofNat_Int, true_and, and_true]; omega)  | kernel_rfl) ?_
    | refine RegW.run ?_
    | fail
  all_goals first
    | exact ⟨[(2000, .row 3 n (rwI (sA lt 0 n))), (2001, .cells [.sl u1 u2 u3 kf]), (2002, .cells [.rc (.vals vl)])], [], rfl, ⟨[], ⟨by kernel_rfl, by kernel_rfl, by kernel_rfl, by kernel_rfl, by kernel_rfl, by kernel_rfl, by kernel_rfl⟩, (by repeat' first | ((intro i' j' hi' hj'; exact Dle.refl _ _)) | exact trivial | exact rfl | kernel_rfl | exact Dle.of_eq rfl | exact MLe.of_eq rfl | exact Dle.i (by omega) | exact Dle.i (by simp only [Int.toNat_natCast] at *; omega) | exact Dle.nil | exact Dle.rc Dle.nil | exact Option.some_ne_none _ | exact Or.inl rfl | exact Or.inr trivial | omega | (simp only [Int.toNat_natCast] at *; omega) | (intro _ _ _ _; exact Dle.of_eq rfl) | refine And.intro ?_ ?_)⟩, rfl⟩
    | trace_state
end
end
end sc
end Go.Proofs.YthoemnhigboahaaGreatDoor
