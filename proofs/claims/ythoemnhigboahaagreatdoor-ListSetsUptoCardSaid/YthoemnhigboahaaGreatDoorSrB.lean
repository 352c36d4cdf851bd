/-
  Stable sorting of a lent row of ints under a closure with two captured variables: symMerge, one on the right. (Printed by mk_sr.py.) Stable sorting of a lent row of ints under a closure with two captured variables: symMerge, the whole. (Printed by mk_sr.py.) Stable sorting in blocks, in plain words. (Printed by mk_sr.py.)
-/
import Derived.Test.YthoemnhigboahaaGreatDoorSr6
import Derived.Test.YthoemnhigboahaaGreatDoorSr8
import Derived.Test.YthoemnhigboahaaGreatDoorSr9
namespace Go.Proofs.YthoemnhigboahaaGreatDoor
open Go.RowKit
set_option linter.unusedVariables false
set_option linter.unusedSimpArgs false
namespace sq
open sb
theorem codeW_seqF {κ : Type} {X : Cx κ} {a b : Code} {Q : Exit → St κ → Prop} {σ : St κ} (hc : cutB a = false) (h : codeW X a (fun e σ' => match e with | .normal => codeW X b Q σ' | e => Q e σ') σ) : codeW X (.seq a b) Q σ := by
  unfold codeW
  rw [hc]
  exact h
theorem codeW_regF {κ : Type} {X : Cx κ} {id : Nat} {ops : Array Oper} {Q : Exit → St κ → Prop} {σ : St κ} (hl : longB ops.toList = false) (h : opsW X ops.toList (Q .normal) ops.toList σ) : codeW X (.region id ops false) Q σ := by
  unfold codeW
  rw [hl]
  exact h
theorem opsW_cons {κ : Type} {X : Cx κ} {all r : List Oper} {o : Oper} {K : St κ → Prop} {σ : St κ} (hg : o.guard = none) (h : opN X o σ (opsW X all K r)) : opsW X all K (o :: r) σ := by
  unfold opsW
  rw [hg]
  exact h
theorem opsW_nil {κ : Type} {X : Cx κ} {all : List Oper} {K : St κ → Prop} {σ : St κ} (h : K σ) : opsW X all K [] σ := by
  unfold opsW
  exact h
theorem opN_move {κ : Type} {X : Cx κ} {o : Oper} {x : Operand} {K : St κ → Prop} {σ : St κ} {d : D κ} (ho : o.op = .move x) (hd : σ.ev x = d) (h : K ((σ.ups []).put o.dst d)) : opN X o σ K := by
  unfold opN
  rw [ho]
  unfold opW opE
  rw [ho]
  simp only [fD_eq]
  rw [hd]
  exact h
theorem opN_bin {κ : Type} {X : Cx κ} {o : Oper} {bo : BinOp} {t u : TypeId} {x y : Operand} {K : St κ → Prop} {σ : St κ} {d : D κ} (ho : o.op = .binOp bo t x y u) (hp : ∀ J : D κ → Prop, pureW X (.binOp bo t x y u) σ.ev J = J d) (h : K ((σ.ups []).put o.dst d)) : opN X o σ K := by
  unfold opN
  rw [ho]
  unfold opW opE
  rw [ho]
  show pureW X (.binOp bo t x y u) σ.ev (fun d => K ((σ.ups []).put o.dst d))
  rw [hp]
  exact h
section
variable {lt : Nat → Nat → Bool}
section
variable (E : Env)
set_option maxRecDepth 100000
set_option maxHeartbeats 16000000 in
theorem symLast (n : Nat) (hn : n ≤ 1000000000) (vl : List Vu) (g : Nat) (hw : Wk lt) (hl : LessR E n vl g lt) (π : Nat → Nat) (hπ : ∀ k, k < n → π k < n) (a m b : Nat) (ham' : a < m) (hmb' : m < b) (hb : (b : Int) ≤ n) (hM : Mg lt π a m b) (hc1 : ¬ m = a + 1) (hc2 : b = m + 1) :
    SpH (cx Tryz.prog mixed tyT_ok E) 124 [lsR g n, i64 a, i64 m, i64 b] (SHR n vl π) (.tup []) (SHR n vl (srt lt id π a b)) := by
  have h0 : (0 : Int) ≤ a := by omega
  have ham : (a : Int) < m := by omega
  have hmb : (m : Int) < b := by omega
  refine SpH.body Tryz.func124 (by kernel_rfl) rfl (by kernel_rfl) (by kernel_rfl) (by kernel_rfl) ?_
  repeat' first
    | (refine codeW_cond rfl ?_; first | (refine condW_dec ?_ ?_ <;> intro _ <;> try (exfalso; omega)) | refine condW_not ?_ | (refine condW_bool ?_ ?_ <;> intro _ <;> try (exfalso; omega)))
    | (refine facW_intro ?_; intro _)
    | refine Or.inl ?_
    | ((conv => whnf); first | (refine condW_dec ?_ ?_ <;> intro _ <;> try (exfalso; omega)) | refine condW_not ?_ | (refine condW_bool ?_ ?_ <;> intro _ <;> try (exfalso; omega)) | (refine nbC_t (fun _ => ?_) ?_) | (refine nbC_f ?_ (fun _ => ?_)))
    | refine And.intro (by first | omega | (simp only [Int.toNat_natCast] at *; omega) | (simp only [Nat.reduceAdd, Int.cast_ofNat_Int, true_and, and_true]; omega)  | kernel_rfl) ?_
    | refine RegW.run ?_
    | fail
  refine ⟨Nat × Nat, fun k => [(12, i64 k.1), (13, i64 k.2)], fun k => [], [4, 2000, 2001, 2002], fun k => [], fun k => a ≤ k.1 ∧ k.1 ≤ k.2 ∧ k.2 ≤ m ∧ (∀ c, a ≤ c → c < k.1 → lt (π m) (π c) = false) ∧ ∀ c, k.2 ≤ c → c < m → lt (π m) (π c) = true, fun k => k.2 - k.1, ⟨(a, m), ⟨Nat.le_refl _, Nat.le_of_lt ham', Nat.le_refl _, fun q q1 q2 => absurd q2 (by show ¬ q < a; omega), fun q q1 q2 => absurd q1 (by show ¬ m ≤ q; omega)⟩, ⟨[], ⟨by kernel_rfl, by kernel_rfl, by kernel_rfl, by kernel_rfl, by kernel_rfl, by kernel_rfl, by kernel_rfl⟩, (by repeat' first | exact trivial | exact rfl | kernel_rfl | exact Dle.of_eq rfl | exact MLe.of_eq rfl | exact Dle.i (by omega) | exact Dle.i (by simp only [Int.toNat_natCast] at *; omega) | exact Dle.nil | exact Dle.rc Dle.nil | exact Option.some_ne_none _ | exact Or.inl rfl | exact Or.inr trivial | omega | (simp only [Int.toNat_natCast] at *; omega) | (intro _ _ _ _; exact Dle.of_eq rfl) | refine And.intro ?_ ?_)⟩⟩, fun k hk => ?_⟩
  obtain ⟨k1, k2, k3, k4, k5⟩ := hk
  have hmid := mid_eq (k.1 : Int) (k.2 : Int) (by omega) (by omega) (by omega)
  by_cases hlt : k.1 < k.2
  · have hl2 := hl π hπ (m : Int) (IntKind.i64.wrap ((IntKind.u64.wrap ((k.1 : Int) + (k.2 : Int))).fdiv (2 ^ min (Int.toNat 1) IntKind.u64.bits))) (by omega) (by omega) (by omega) (by omega)
    have hv : lt (π ((m : Int)).toNat) (π (IntKind.i64.wrap ((IntKind.u64.wrap ((k.1 : Int) + (k.2 : Int))).fdiv (2 ^ min (Int.toNat 1) IntKind.u64.bits))).toNat) = lt (π m) (π ((k.1 + k.2) / 2)) := by
      rw [Int.toNat_natCast, show (IntKind.i64.wrap ((IntKind.u64.wrap ((k.1 : Int) + (k.2 : Int))).fdiv (2 ^ min (Int.toNat 1) IntKind.u64.bits))).toNat = (k.1 + k.2) / 2 by omega]
    obtain ⟨bb, hbb⟩ : ∃ bb, bb = lt (π m) (π ((k.1 + k.2) / 2)) := ⟨_, rfl⟩
    rw [hv, ← hbb] at hl2
    have hnF : bb = false → ∀ c, a ≤ c → c < (k.1 + k.2) / 2 + 1 → lt (π m) (π c) = false := fun hb c c1 c2 => hM.mono_not hw c1 (by omega : c ≤ (k.1 + k.2) / 2) (by omega) (Nat.le_refl _) (Nat.le_refl _) hmb' (hbb.symm.trans hb)
    have hnT : bb = true → ∀ c, (k.1 + k.2) / 2 ≤ c → c < m → lt (π m) (π c) = true := fun hb c c1 c2 => hM.mono hw (by omega : a ≤ (k.1 + k.2) / 2) c1 c2 (Nat.le_refl _) (Nat.le_refl _) hmb' (hbb.symm.trans hb)
    clear hbb hv
    refine codeW_seqF rfl ?_
    refine codeW_seqF rfl ?_
    refine codeW_regF rfl ?_
    refine opsW_cons rfl (opN_move (d := i64 k.1) rfl rfl ?_)
    refine opsW_cons rfl (opN_move (d := i64 k.2) rfl rfl ?_)
    refine opsW_cons rfl (opN_bin (d := dB (decide ((k.1 : Int) < k.2))) rfl (fun _ => rfl) ?_)
    refine opsW_nil ?_
    refine codeW_cond (b := decide ((k.1 : Int) < k.2)) rfl ?_
    refine condW_dec ?_ ?_ <;> intro _ <;> try (exfalso; omega)
    repeat' first
      | refine Or.inr ⟨_, _, _, Or.inl (hl2), by kernel_rfl, (by repeat' first | exact trivial | exact rfl | kernel_rfl | exact Dle.of_eq rfl | exact MLe.of_eq rfl | exact Dle.i (by omega) | exact Dle.i (by simp only [Int.toNat_natCast] at *; omega) | exact Dle.nil | exact Dle.rc Dle.nil | exact Option.some_ne_none _ | exact Or.inl rfl | exact Or.inr trivial | omega | (simp only [Int.toNat_natCast] at *; omega) | (intro _ _ _ _; exact Dle.of_eq rfl) | refine And.intro ?_ ?_), ?_⟩
      | (refine codeW_cond rfl ?_; first | (refine condW_dec ?_ ?_ <;> intro _ <;> try (exfalso; omega)) | refine condW_not ?_ | (refine condW_bool ?_ ?_ <;> intro _ <;> try (exfalso; omega)))
      | (refine facW_intro ?_; intro _)
      | refine Or.inl ?_
      | ((conv => whnf); first | (refine condW_dec ?_ ?_ <;> intro _ <;> try (exfalso; omega)) | refine condW_not ?_ | (refine condW_bool ?_ ?_ <;> intro _ <;> try (exfalso; omega)) | (refine nbC_t (fun _ => ?_) ?_) | (refine nbC_f ?_ (fun _ => ?_)))
      | refine And.intro (by first | omega | (simp only [Int.toNat_natCast] at *; omega) | (simp only [Nat.reduceAdd, Int.cast_ofNat_Int, true_and, and_true]; omega)  | kernel_rfl) ?_
      | refine RegW.run ?_
      | fail
    all_goals first
      | (exfalso; omega)
      | (have hnext := hnF (by assumption); exact ⟨((k.1 + k.2) / 2 + 1, k.2), ⟨by show a ≤ (k.1 + k.2) / 2 + 1; omega, by show (k.1 + k.2) / 2 + 1 ≤ k.2; omega, k3, hnext, k5⟩, ⟨[], ⟨by kernel_rfl, by kernel_rfl, by kernel_rfl, by kernel_rfl, by kernel_rfl, by kernel_rfl, by kernel_rfl⟩, (by repeat' first | (exact Dle.i (by show _ = (((k.1 + k.2) / 2 + 1 : Nat) : Int); omega)) | exact trivial | exact rfl | kernel_rfl | exact Dle.of_eq rfl | exact MLe.of_eq rfl | exact Dle.i (by omega) | exact Dle.i (by simp only [Int.toNat_natCast] at *; omega) | exact Dle.nil | exact Dle.rc Dle.nil | exact Option.some_ne_none _ | exact Or.inl rfl | exact Or.inr trivial | omega | (simp only [Int.toNat_natCast] at *; omega) | (intro _ _ _ _; exact Dle.of_eq rfl) | refine And.intro ?_ ?_)⟩, by first | omega | (dsimp only; omega)⟩)
      | (have hnext := hnT (by assumption); exact ⟨(k.1, (k.1 + k.2) / 2), ⟨k1, by show k.1 ≤ (k.1 + k.2) / 2; omega, by show (k.1 + k.2) / 2 ≤ m; omega, k4, hnext⟩, ⟨[], ⟨by kernel_rfl, by kernel_rfl, by kernel_rfl, by kernel_rfl, by kernel_rfl, by kernel_rfl, by kernel_rfl⟩, (by repeat' first | (exact Dle.i (by show _ = (((k.1 + k.2) / 2 : Nat) : Int); omega)) | exact trivial | exact rfl | kernel_rfl | exact Dle.of_eq rfl | exact MLe.of_eq rfl | exact Dle.i (by omega) | exact Dle.i (by simp only [Int.toNat_natCast] at *; omega) | exact Dle.nil | exact Dle.rc Dle.nil | exact Option.some_ne_none _ | exact Or.inl rfl | exact Or.inr trivial | omega | (simp only [Int.toNat_natCast] at *; omega) | (intro _ _ _ _; exact Dle.of_eq rfl) | refine And.intro ?_ ?_)⟩, by first | omega | (dsimp only; omega)⟩)
      | trace_state
  · have hend := hM.last hw hc2 k1 (by omega) k4 (fun c c1 c2 => k5 c (by omega) c2)
    refine codeW_seqF rfl ?_
    refine codeW_seqF rfl ?_
    refine codeW_regF rfl ?_
    refine opsW_cons rfl (opN_move (d := i64 k.1) rfl rfl ?_)
    refine opsW_cons rfl (opN_move (d := i64 k.2) rfl rfl ?_)
    refine opsW_cons rfl (opN_bin (d := dB (decide ((k.1 : Int) < k.2))) rfl (fun _ => rfl) ?_)
    refine opsW_nil ?_
    refine codeW_cond (b := decide ((k.1 : Int) < k.2)) rfl ?_
    refine condW_dec ?_ ?_ <;> intro _ <;> try (exfalso; omega)
    repeat' first
      | (refine codeW_cond rfl ?_; first | (refine condW_dec ?_ ?_ <;> intro _ <;> try (exfalso; omega)) | refine condW_not ?_ | (refine condW_bool ?_ ?_ <;> intro _ <;> try (exfalso; omega)))
      | (refine facW_intro ?_; intro _)
      | refine Or.inl ?_
      | ((conv => whnf); first | (refine condW_dec ?_ ?_ <;> intro _ <;> try (exfalso; omega)) | refine condW_not ?_ | (refine condW_bool ?_ ?_ <;> intro _ <;> try (exfalso; omega)) | (refine nbC_t (fun _ => ?_) ?_) | (refine nbC_f ?_ (fun _ => ?_)))
      | refine And.intro (by first | omega | (simp only [Int.toNat_natCast] at *; omega) | (simp only [Nat.reduceAdd, Int.cast_ofNat_Int, true_and, and_true]; omega)  | kernel_rfl) ?_
      | refine RegW.run ?_
      | fail
    refine ⟨Nat, fun j => [(15, i64 j)], fun j => [(2000, .row 3 n (rwI (rot π j m (m + 1))))], [4, 2001, 2002], fun j => [], fun j => k.1 ≤ j ∧ j ≤ m, fun j => j, ⟨m, ⟨by omega, Nat.le_refl _⟩, ⟨[], ⟨by kernel_rfl, by kernel_rfl, by kernel_rfl, by kernel_rfl, by kernel_rfl, by kernel_rfl, by kernel_rfl⟩, (by repeat' first | ((intro i' j' hi' hj'; rw [rot_none1]; exact Dle.refl _ _)) | exact trivial | exact rfl | kernel_rfl | exact Dle.of_eq rfl | exact MLe.of_eq rfl | exact Dle.i (by omega) | exact Dle.i (by simp only [Int.toNat_natCast] at *; omega) | exact Dle.nil | exact Dle.rc Dle.nil | exact Option.some_ne_none _ | exact Or.inl rfl | exact Or.inr trivial | omega | (simp only [Int.toNat_natCast] at *; omega) | (intro _ _ _ _; exact Dle.of_eq rfl) | refine And.intro ?_ ?_)⟩⟩, fun j hj => ?_⟩
    obtain ⟨j1, j2⟩ := hj
    have hin2 := rot_in (a := j) (m := m) (b := m + 1) hπ (by omega) (by omega) (by omega)
    by_cases hj3 : k.1 < j
    · have hdn : sb.swp (rot π j m (m + 1)) ((j : Int)).toNat ((j : Int) - 1).toNat = rot π (j - 1) m (m + 1) := by
        rw [Int.toNat_natCast, show ((j : Int) - 1).toNat = j - 1 by omega]
        exact rot_down j2 (by omega)
      repeat' first
        | refine Or.inr ⟨_, _, _, Or.inr (swap_x E n hn (rot π j m (m + 1)) hin2 _ _ (by omega) (by omega) (by omega) (by omega)), by kernel_rfl, (by repeat' first | exact trivial | exact rfl | kernel_rfl | exact Dle.of_eq rfl | exact MLe.of_eq rfl | exact Dle.i (by omega) | exact Dle.i (by simp only [Int.toNat_natCast] at *; omega) | exact Dle.nil | exact Dle.rc Dle.nil | exact Option.some_ne_none _ | exact Or.inl rfl | exact Or.inr trivial | omega | (simp only [Int.toNat_natCast] at *; omega) | (intro _ _ _ _; exact Dle.of_eq rfl) | refine And.intro ?_ ?_), ?_⟩
        | (refine codeW_cond rfl ?_; first | (refine condW_dec ?_ ?_ <;> intro _ <;> try (exfalso; omega)) | refine condW_not ?_ | (refine condW_bool ?_ ?_ <;> intro _ <;> try (exfalso; omega)))
        | (refine facW_intro ?_; intro _)
        | refine Or.inl ?_
        | ((conv => whnf); first | (refine condW_dec ?_ ?_ <;> intro _ <;> try (exfalso; omega)) | refine condW_not ?_ | (refine condW_bool ?_ ?_ <;> intro _ <;> try (exfalso; omega)) | (refine nbC_t (fun _ => ?_) ?_) | (refine nbC_f ?_ (fun _ => ?_)))
        | refine And.intro (by first | omega | (simp only [Int.toNat_natCast] at *; omega) | (simp only [Nat.reduceAdd, Int.cast_ofNat_Int, true_and, and_true]; omega)  | kernel_rfl) ?_
        | refine RegW.run ?_
        | fail
      all_goals first
        | (exfalso; omega)
        | exact ⟨j - 1, by omega, ⟨[], ⟨by kernel_rfl, by kernel_rfl, by kernel_rfl, by kernel_rfl, by kernel_rfl, by kernel_rfl, by kernel_rfl⟩, (by repeat' first | (first | (intro i' j' hi' hj'; rw [hdn]; exact Dle.refl _ _) | exact Dle.i (by omega)) | exact trivial | exact rfl | kernel_rfl | exact Dle.of_eq rfl | exact MLe.of_eq rfl | exact Dle.i (by omega) | exact Dle.i (by simp only [Int.toNat_natCast] at *; omega) | exact Dle.nil | exact Dle.rc Dle.nil | exact Option.some_ne_none _ | exact Or.inl rfl | exact Or.inr trivial | omega | (simp only [Int.toNat_natCast] at *; omega) | (intro _ _ _ _; exact Dle.of_eq rfl) | refine And.intro ?_ ?_)⟩, by first | omega | (dsimp only; omega)⟩
        | trace_state
    · have hje : j = k.1 := by omega
      repeat' first
        | (refine codeW_cond rfl ?_; first | (refine condW_dec ?_ ?_ <;> intro _ <;> try (exfalso; omega)) | refine condW_not ?_ | (refine condW_bool ?_ ?_ <;> intro _ <;> try (exfalso; omega)))
        | (refine facW_intro ?_; intro _)
        | refine Or.inl ?_
        | ((conv => whnf); first | (refine condW_dec ?_ ?_ <;> intro _ <;> try (exfalso; omega)) | refine condW_not ?_ | (refine condW_bool ?_ ?_ <;> intro _ <;> try (exfalso; omega)) | (refine nbC_t (fun _ => ?_) ?_) | (refine nbC_f ?_ (fun _ => ?_)))
        | refine And.intro (by first | omega | (simp only [Int.toNat_natCast] at *; omega) | (simp only [Nat.reduceAdd, Int.cast_ofNat_Int, true_and, and_true]; omega)  | kernel_rfl) ?_
        | refine RegW.run ?_
        | fail
      all_goals first
        | (exfalso; omega)
        | exact ⟨[(2000, .row 3 n (rwI (srt lt id π a b))), (2001, .cells [.rc (.vals vl)]), (2002, .cells [.own 2000 1 0 n])], [], rfl, ⟨[], ⟨by kernel_rfl, by kernel_rfl, by kernel_rfl, by kernel_rfl, by kernel_rfl, by kernel_rfl, by kernel_rfl⟩, (by repeat' first | ((intro i' j' hi' hj'; rw [hend, hje]; exact Dle.refl _ _)) | exact trivial | exact rfl | kernel_rfl | exact Dle.of_eq rfl | exact MLe.of_eq rfl | exact Dle.i (by omega) | exact Dle.i (by simp only [Int.toNat_natCast] at *; omega) | exact Dle.nil | exact Dle.rc Dle.nil | exact Option.some_ne_none _ | exact Or.inl rfl | exact Or.inr trivial | omega | (simp only [Int.toNat_natCast] at *; omega) | (intro _ _ _ _; exact Dle.of_eq rfl) | refine And.intro ?_ ?_)⟩, rfl⟩
        | trace_state

end
end
end sq
end Go.Proofs.YthoemnhigboahaaGreatDoor
namespace Go.Proofs.YthoemnhigboahaaGreatDoor
open Go.RowKit
set_option linter.unusedVariables false
set_option linter.unusedSimpArgs false
namespace sq
open sb
section
variable {lt : Nat → Nat → Bool}
section
variable (E : Env)
set_option maxRecDepth 100000
theorem symMerge_l (n : Nat) (hn : n ≤ 1000000000) (vl : List Vu) (g : Nat) (hw : Wk lt) (hl : LessR E n vl g lt) : ∀ N, SymR E n vl g lt N
  | 0 => fun π _ a m b _ h1 h2 _ h3 _ => absurd h3 (by omega)
  | N + 1 => fun π hπ a m b h0 ham hmb hb hN hM => by
    have ih := symMerge_l n hn vl g hw hl N
    obtain ⟨a, rfl⟩ : ∃ x : Nat, a = x := ⟨a.toNat, by omega⟩
    obtain ⟨b, rfl⟩ : ∃ x : Nat, b = x := ⟨b.toNat, by omega⟩
    obtain ⟨m, rfl⟩ : ∃ x : Nat, m = x := ⟨m.toNat, by omega⟩
    rw [Int.toNat_natCast, Int.toNat_natCast] at *
    rw [Int.toNat_natCast] at hM
    by_cases hc1 : m = a + 1
    · exact symOne E n hn vl g hw hl π hπ a m b (by omega) (by omega) hb hM hc1
    · by_cases hc2 : b = m + 1
      · exact symLast E n hn vl g hw hl π hπ a m b (by omega) (by omega) hb hM hc1 hc2
      · by_cases hmm : (a + b) / 2 < m
        · exact symCutL E n hn vl g hw hl π hπ a m b (by omega) (by omega) hb hM hc1 hc2 N hN ih _ rfl hmm
        · exact symCutR E n hn vl g hw hl π hπ a m b (by omega) (by omega) hb hM hc1 hc2 N hN ih _ rfl hmm
end
end
end sq
end Go.Proofs.YthoemnhigboahaaGreatDoor
namespace Go.Proofs.YthoemnhigboahaaGreatDoor
set_option linter.unusedVariables false
set_option linter.unusedSimpArgs false
namespace sq
open sb
section
variable {lt : Nat → Nat → Bool}
noncomputable def sA (lt : Nat → Nat → Bool) (a b : Nat) : Nat → Nat := srt lt id id a b
theorem sA_spec (hw : Wk lt) (a b : Nat) : Srt lt id (sA lt a b) a b ∧ Prm (sA lt a b) id a b := srt_spec (g := id) hw (fun k l h1 h2 h3 => by show k ≠ l; omega)
theorem sA_in (hw : Wk lt) {a b k : Nat} (h1 : a ≤ k) (h2 : k < b) : a ≤ sA lt a b k ∧ sA lt a b k < b := by
  obtain ⟨l, q1, q2, q3⟩ := (sA_spec hw a b).2.mem h1 h2
  rw [q3]
  exact ⟨q1, q2⟩
theorem srt_patch (hw : Wk lt) {q : Nat → Nat} {a b : Nat} (h : (seg q a (b - a)).Perm (seg id a (b - a))) : srt lt id q a b = fun k => if a ≤ k ∧ k < b then sA lt a b k else q k := by
  obtain ⟨h1, h2⟩ := sA_spec hw a b
  refine srt_eq hw (h1.congr fun k k1 k2 => if_pos ⟨k1, k2⟩) ⟨fun k hk => if_neg hk, ?_⟩
  have e : seg (fun k => if a ≤ k ∧ k < b then sA lt a b k else q k) a (b - a) = seg (sA lt a b) a (b - a) := seg_congr fun i hi => if_pos (by omega)
  rw [e]
  exact h2.2.trans h.symm
noncomputable def blk (lt : Nat → Nat → Bool) (n s k : Nat) : Nat := sA lt (k / s * s) (min (k / s * s + s) n) k
theorem blk_at {n s c a k : Nat} (hs : 0 < s) (hc : a = c * s) (h1 : a ≤ k) (h2 : k < a + s) : blk lt n s k = sA lt a (min (a + s) n) k := by
  have : k / s = c := by
    subst hc
    exact Nat.div_eq_of_lt_le h1 (by rw [Nat.add_mul, Nat.one_mul]; exact h2)
  unfold blk
  rw [this, ← hc]
noncomputable def mix (lt : Nat → Nat → Bool) (n s a k : Nat) : Nat := if k < n then (if k < a then blk lt n (2 * s) k else blk lt n s k) else k
noncomputable def beg (lt : Nat → Nat → Bool) (n a k : Nat) : Nat := if k < a then blk lt n 20 k else k
theorem beg_in (hw : Wk lt) {n a : Nat} (ha : a ≤ n) : ∀ k, k < n → beg lt n a k < n := fun k hk => by
  unfold beg
  split
  · unfold blk
    have := sA_in (lt := lt) hw (a := k / 20 * 20) (b := min (k / 20 * 20 + 20) n) (k := k) (by omega) (by omega)
    omega
  · exact hk
theorem beg_step (hw : Wk lt) {n a c : Nat} (hc : a = c * 20) (hb : a + 20 ≤ n) : srt lt id (beg lt n a) a (a + 20) = beg lt n (a + 20) := by
  rw [srt_patch hw (by rw [seg_congr (q := id) (b := a) (fun i hi => by unfold beg; rw [if_neg (by omega)]; rfl)])]
  funext k
  unfold beg
  by_cases h : a ≤ k ∧ k < a + 20
  · rw [if_pos h, if_pos (by omega), blk_at (by omega) hc h.1 h.2, Nat.min_eq_left hb]
  · rw [if_neg h]
    by_cases h2 : k < a
    · rw [if_pos h2, if_pos (by omega)]
    · rw [if_neg h2, if_neg (by omega)]
theorem beg_last (hw : Wk lt) {n a c : Nat} (hc : a = c * 20) (ha : a ≤ n) (hb : n < a + 20) : srt lt id (beg lt n a) a n = mix lt n 20 0 := by
  rw [srt_patch hw (by rw [seg_congr (q := id) (b := a) (fun i hi => by unfold beg; rw [if_neg (by omega)]; rfl)])]
  funext k
  unfold beg mix
  by_cases h : a ≤ k ∧ k < n
  · rw [if_pos h, if_pos h.2, if_neg (by omega), blk_at (by omega) hc h.1 (by omega), Nat.min_eq_right (by omega)]
  · rw [if_neg h]
    by_cases h2 : k < a
    · rw [if_pos h2, if_pos (by omega), if_neg (by omega)]
    · rw [if_neg h2, if_neg (by omega)]
theorem mix_in (hw : Wk lt) {n s a : Nat} (hs : 0 < s) : ∀ k, k < n → mix lt n s a k < n := fun k hk => by
  have key : ∀ t, 0 < t → blk lt n t k < n := fun t ht => by
    unfold blk
    have h1 := Nat.div_mul_le_self k t
    have h2 : k < k / t * t + t := by
      have := Nat.lt_div_mul_add ht (a := k)
      omega
    have := sA_in (lt := lt) hw (a := k / t * t) (b := min (k / t * t + t) n) (k := k) h1 (by omega)
    omega
  unfold mix
  rw [if_pos hk]
  split
  · exact key _ (by omega)
  · exact key _ hs
theorem mix_mg (hw : Wk lt) {n s a c e : Nat} (hs : 0 < s) (hc : a = c * (2 * s)) (h1 : a + s < e) (h2 : e ≤ a + 2 * s) (h3 : e ≤ n) (h4 : e = a + 2 * s ∨ e = n) : Mg lt (mix lt n s a) a (a + s) e := by
  have e1 : ∀ k, a ≤ k → k < a + s → mix lt n s a k = sA lt a (a + s) k := fun k k1 k2 => by
    unfold mix
    rw [if_pos (by omega), if_neg (by omega), blk_at (c := 2 * c) hs (by rw [hc, Nat.mul_comm 2 c, Nat.mul_assoc]) k1 k2, Nat.min_eq_left (by omega)]
  have e2 : ∀ k, a + s ≤ k → k < e → mix lt n s a k = sA lt (a + s) e k := fun k k1 k2 => by
    unfold mix
    rw [if_pos (by omega), if_neg (by omega), blk_at (c := 2 * c + 1) hs (by rw [hc, Nat.add_mul, Nat.mul_comm 2 c, Nat.mul_assoc, Nat.one_mul]) k1 (by omega), show min (a + s + s) n = e by omega]
  refine ⟨(sA_spec hw a (a + s)).1.congr e1, (sA_spec hw (a + s) e).1.congr e2, fun x y x1 x2 y1 y2 => ?_⟩
  rw [e1 x x1 x2, e2 y y1 y2]
  have := sA_in (lt := lt) hw x1 x2
  have := sA_in (lt := lt) hw y1 y2
  omega
theorem mix_perm (hw : Wk lt) {n s a c e : Nat} (hs : 0 < s) (hc : a = c * (2 * s)) (h1 : a + s < e) (h2 : e ≤ a + 2 * s) (h3 : e ≤ n) (h4 : e = a + 2 * s ∨ e = n) : (seg (mix lt n s a) a (e - a)).Perm (seg id a (e - a)) := by
  have e1 : ∀ k, a ≤ k → k < a + s → mix lt n s a k = sA lt a (a + s) k := fun k k1 k2 => by
    unfold mix
    rw [if_pos (by omega), if_neg (by omega), blk_at (c := 2 * c) hs (by rw [hc, Nat.mul_comm 2 c, Nat.mul_assoc]) k1 k2, Nat.min_eq_left (by omega)]
  have e2 : ∀ k, a + s ≤ k → k < e → mix lt n s a k = sA lt (a + s) e k := fun k k1 k2 => by
    unfold mix
    rw [if_pos (by omega), if_neg (by omega), blk_at (c := 2 * c + 1) hs (by rw [hc, Nat.add_mul, Nat.mul_comm 2 c, Nat.mul_assoc, Nat.one_mul]) k1 (by omega), show min (a + s + s) n = e by omega]
  rw [show e - a = s + (e - (a + s)) by omega, seg_add, seg_add]
  refine List.Perm.append ?_ ?_
  · rw [seg_congr (q := sA lt a (a + s)) (b := a) (fun i hi => e1 _ (by omega) (by omega))]
    have := (sA_spec (lt := lt) hw a (a + s)).2.2
    rwa [show a + s - a = s by omega] at this
  · rw [seg_congr (q := sA lt (a + s) e) (b := a + s) (fun i hi => e2 _ (by omega) (by omega))]
    exact (sA_spec (lt := lt) hw (a + s) e).2.2
theorem mix_step (hw : Wk lt) {n s a c : Nat} (hs : 0 < s) (hc : a = c * (2 * s)) (h3 : a + 2 * s ≤ n) : srt lt id (mix lt n s a) a (a + 2 * s) = mix lt n s (a + 2 * s) := by
  rw [srt_patch hw (mix_perm hw hs hc (by omega) (Nat.le_refl _) h3 (.inl rfl))]
  funext k
  unfold mix
  by_cases h : a ≤ k ∧ k < a + 2 * s
  · rw [if_pos h, if_pos (by omega), if_pos (by omega), blk_at (by omega) hc h.1 h.2, Nat.min_eq_left h3]
  · rw [if_neg h]
    by_cases hn : k < n
    · rw [if_pos hn, if_pos hn]
      by_cases h2 : k < a
      · rw [if_pos h2, if_pos (by omega)]
      · rw [if_neg h2, if_neg (by omega)]
    · rw [if_neg hn, if_neg hn]
theorem mix_last (hw : Wk lt) {n s a c : Nat} (hs : 0 < s) (hc : a = c * (2 * s)) (h1 : a + s < n) (h3 : n < a + 2 * s) : srt lt id (mix lt n s a) a n = mix lt n (2 * s) 0 := by
  rw [srt_patch hw (mix_perm hw hs hc h1 (by omega) (Nat.le_refl _) (.inr rfl))]
  funext k
  unfold mix
  by_cases h : a ≤ k ∧ k < n
  · rw [if_pos h, if_pos (by omega), if_neg (by omega), blk_at (by omega) hc h.1 (by omega), Nat.min_eq_right (by omega)]
  · rw [if_neg h]
    by_cases hn : k < n
    · rw [if_pos hn, if_pos hn, if_pos (by omega), if_neg (by omega)]
    · rw [if_neg hn, if_neg hn]
theorem mix_none {n s a c : Nat} (hs : 0 < s) (hc : a = c * (2 * s)) (h1 : n ≤ a + s) (ha : a ≤ n) : mix lt n s a = mix lt n (2 * s) 0 := by
  funext k
  unfold mix
  by_cases hn : k < n
  · rw [if_pos hn, if_pos hn, if_neg (by omega : ¬ k < 0)]
    by_cases h2 : k < a
    · rw [if_pos h2]
    · rw [if_neg h2, blk_at (c := 2 * c) hs (by rw [hc, Nat.mul_comm 2 c, Nat.mul_assoc]) (by omega : a ≤ k) (by omega), blk_at (by omega) hc (by omega : a ≤ k) (by omega), show min (a + s) n = min (a + 2 * s) n by omega]
  · rw [if_neg hn, if_neg hn]
theorem mix_end (hw : Wk lt) {n s : Nat} (hs : 0 < s) (h : n ≤ s) : mix lt n s 0 = sA lt 0 n := by
  funext k
  unfold mix
  by_cases hn : k < n
  · rw [if_pos hn, if_neg (by omega), blk_at (c := 0) hs (by omega : 0 = 0 * s) (Nat.zero_le _) (by omega), show min (0 + s) n = n by omega]
  · rw [if_neg hn, (sA_spec hw 0 n).2.1 k (by omega)]
    rfl
end
end sq
end Go.Proofs.YthoemnhigboahaaGreatDoor
