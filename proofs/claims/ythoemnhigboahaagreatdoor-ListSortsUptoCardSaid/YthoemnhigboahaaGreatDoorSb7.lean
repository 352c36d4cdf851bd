/-
  Stable sorting of a lent row of ints under a closure with three captured variables: symMerge, one on the right. (Printed by mk_sb6.py, mk_sb6s.py.)
-/
import Derived.Test.YthoemnhigboahaaGreatDoorSb6
namespace Go.Proofs.YthoemnhigboahaaGreatDoor
open Go.RowKit
set_option linter.unusedVariables false
set_option linter.unusedSimpArgs false
namespace sb
theorem codeW_seqF {κ : Type} {X : Cx κ} {a b : Code} {Q : Exit → St κ → Prop} {σ : St κ} (hc : cutB a = false) (h : codeW X a (fun e σ' => match e with | .normal => codeW X b Q σ' | e => Q e σ') σ) : codeW X (.seq a b) Q σ := by
  unfold codeW
  rw [hc]
  exact h
theorem codeW_regF {κ : Type} {X : Cx κ} {id : Nat} {ops : Array Oper} {Q : Exit → St κ → Prop} {σ : St κ} (hl : longB ops.toList = false) (h : opsW X ops.toList (Q .normal) ops.toList σ) : codeW X (.region id ops false) Q σ := by
  unfold codeW
  rw [hl]
  exact h
theorem opsW_cons {κ : Type} {X : Cx κ} {all r : List Oper} {o : Oper} {K : St κ → Prop} {σ : St κ} (hg : o.guard = none) (h : opN X o σ (opsW X all K r)) : opsW X all K (o :: r) σ := by
  unfold opsW
  rw [hg]
  exact h
theorem opsW_nil {κ : Type} {X : Cx κ} {all : List Oper} {K : St κ → Prop} {σ : St κ} (h : K σ) : opsW X all K [] σ := by
  unfold opsW
  exact h
theorem opN_move {κ : Type} {X : Cx κ} {o : Oper} {x : Operand} {K : St κ → Prop} {σ : St κ} {d : D κ} (ho : o.op = .move x) (hd : σ.ev x = d) (h : K ((σ.ups []).put o.dst d)) : opN X o σ K := by
  unfold opN
  rw [ho]
  unfold opW opE
  rw [ho]
  simp only [fD_eq]
  rw [hd]
  exact h
theorem opN_bin {κ : Type} {X : Cx κ} {o : Oper} {bo : BinOp} {t u : TypeId} {x y : Operand} {K : St κ → Prop} {σ : St κ} {d : D κ} (ho : o.op = .binOp bo t x y u) (hp : ∀ J : D κ → Prop, pureW X (.binOp bo t x y u) σ.ev J = J d) (h : K ((σ.ups []).put o.dst d)) : opN X o σ K := by
  unfold opN
  rw [ho]
  unfold opW opE
  rw [ho]
  show pureW X (.binOp bo t x y u) σ.ev (fun d => K ((σ.ups []).put o.dst d))
  rw [hp]
  exact h
section
variable {lt : Nat → Nat → Bool}
section
variable (E : Env)
set_option maxRecDepth 100000
set_option maxHeartbeats 16000000 in
theorem symLast (n vm ks kb kn : Nat) (hn : n ≤ 1000000000) (kf fv : Nat → Nat → DD) (g : Nat) (hw : Wk lt) (hl : LessA E n vm ks kb kn kf fv g lt) (π : Nat → Nat) (hπ : ∀ k, k < n → π k < n) (a m b : Nat) (ham' : a < m) (hmb' : m < b) (hb : (b : Int) ≤ n) (hM : Mg lt π a m b) (hc1 : ¬ m = a + 1) (hc2 : b = m + 1) :
    SpH (cx Tryz.prog mixed tyT_ok E) 124 [lsD g n, i64 a, i64 m, i64 b] (SHA n vm ks kb kn kf fv π) (.tup []) (SHA n vm ks kb kn kf fv (srt lt id π a b)) := by
  have h0 : (0 : Int) ≤ a := by omega
  have ham : (a : Int) < m := by omega
  have hmb : (m : Int) < b := by omega
  refine SpH.body Tryz.func124 (by kernel_rfl) rfl (by kernel_rfl) (by kernel_rfl) (by kernel_rfl) ?_
  repeat' first
    | (refine codeW_cond rfl ?_; first | (refine condW_dec ?_ ?_ <;> intro _ <;> try (exfalso; omega)) | refine condW_not ?_ | (refine condW_bool ?_ ?_ <;> intro _ <;> try (exfalso; omega)))
    | (refine facW_intro ?_; intro _)
    | refine Or.inl ?_
    | ((conv => whnf); first | (refine condW_dec ?_ ?_ <;> intro _ <;> try (exfalso; omega)) | refine condW_not ?_ | (refine condW_bool ?_ ?_ <;> intro _ <;> try (exfalso; omega)) | (refine nbC_t (fun _ => ?_) ?_) | (refine nbC_f ?_ (fun _ => ?_)))
    | refine And.intro (by first | omega | (simp only [Int.toNat_natCast] at *; omega) | (simp only [Nat.reduceAdd, Int.cast_ofNat_Int, true_and, and_true]; omega)  | kernel_rfl) ?_
    | refine RegW.run ?_
    | fail
  refine ⟨Nat × Nat, fun k => [(12, i64 k.1), (13, i64 k.2)], fun k => [], [4, 2000, 2001, 2002, 2003, 2004], fun k => [], fun k => a ≤ k.1 ∧ k.1 ≤ k.2 ∧ k.2 ≤ m ∧ (∀ c, a ≤ c → c < k.1 → lt (π m) (π c) = false) ∧ ∀ c, k.2 ≤ c → c < m → lt (π m) (π c) = true, fun k => k.2 - k.1, ⟨(a, m), ⟨Nat.le_refl _, Nat.le_of_lt ham', Nat.le_refl _, fun q q1 q2 => absurd q2 (by show ¬ q < a; omega), fun q q1 q2 => absurd q1 (by show ¬ m ≤ q; omega)⟩, ⟨[], ⟨by kernel_rfl, by kernel_rfl, by kernel_rfl, by kernel_rfl, by kernel_rfl, by kernel_rfl, by kernel_rfl⟩, (by repeat' first | exact trivial | exact rfl | kernel_rfl | exact Dle.of_eq rfl | exact MLe.of_eq rfl | exact Dle.i (by omega) | exact Dle.i (by simp only [Int.toNat_natCast] at *; omega) | exact Dle.nil | exact Dle.rc Dle.nil | exact Option.some_ne_none _ | exact Or.inl rfl | exact Or.inr trivial | omega | (simp only [Int.toNat_natCast] at *; omega) | (intro _ _ _ _; exact Dle.of_eq rfl) | refine And.intro ?_ ?_)⟩⟩, fun k hk => ?_⟩
  obtain ⟨k1, k2, k3, k4, k5⟩ := hk
  have hmid := mid_eq (k.1 : Int) (k.2 : Int) (by omega) (by omega) (by omega)
  by_cases hlt : k.1 < k.2
  · have hl2 := hl π hπ (m : Int) (IntKind.i64.wrap ((IntKind.u64.wrap ((k.1 : Int) + (k.2 : Int))).fdiv (2 ^ min (Int.toNat 1) IntKind.u64.bits))) (by omega) (by omega) (by omega) (by omega)
    have hv : lt (π ((m : Int)).toNat) (π (IntKind.i64.wrap ((IntKind.u64.wrap ((k.1 : Int) + (k.2 : Int))).fdiv (2 ^ min (Int.toNat 1) IntKind.u64.bits))).toNat) = lt (π m) (π ((k.1 + k.2) / 2)) := by
      rw [Int.toNat_natCast, show (IntKind.i64.wrap ((IntKind.u64.wrap ((k.1 : Int) + (k.2 : Int))).fdiv (2 ^ min (Int.toNat 1) IntKind.u64.bits))).toNat = (k.1 + k.2) / 2 by omega]
    obtain ⟨bb, hbb⟩ : ∃ bb, bb = lt (π m) (π ((k.1 + k.2) / 2)) := ⟨_, rfl⟩
    rw [hv, ← hbb] at hl2
    have hnF : bb = false → ∀ c, a ≤ c → c < (k.1 + k.2) / 2 + 1 → lt (π m) (π c) = false := fun hb c c1 c2 => hM.mono_not hw c1 (by omega : c ≤ (k.1 + k.2) / 2) (by omega) (Nat.le_refl _) (Nat.le_refl _) hmb' (hbb.symm.trans hb)
    have hnT : bb = true → ∀ c, (k.1 + k.2) / 2 ≤ c → c < m → lt (π m) (π c) = true := fun hb c c1 c2 => hM.mono hw (by omega : a ≤ (k.1 + k.2) / 2) c1 c2 (Nat.le_refl _) (Nat.le_refl _) hmb' (hbb.symm.trans hb)
    clear hbb hv
    refine codeW_seqF rfl ?_
    refine codeW_seqF rfl ?_
    refine codeW_regF rfl ?_
    refine opsW_cons rfl (opN_move (d := i64 k.1) rfl rfl ?_)
    refine opsW_cons rfl (opN_move (d := i64 k.2) rfl rfl ?_)
    refine opsW_cons rfl (opN_bin (d := dB (decide ((k.1 : Int) < k.2))) rfl (fun _ => rfl) ?_)
    refine opsW_nil ?_
    refine codeW_cond (b := decide ((k.1 : Int) < k.2)) rfl ?_
    refine condW_dec ?_ ?_ <;> intro _ <;> try (exfalso; omega)
    repeat' first
      | refine Or.inr ⟨_, _, _, Or.inl (hl2), by kernel_rfl, (by repeat' first | exact trivial | exact rfl | kernel_rfl | exact Dle.of_eq rfl | exact MLe.of_eq rfl | exact Dle.i (by omega) | exact Dle.i (by simp only [Int.toNat_natCast] at *; omega) | exact Dle.nil | exact Dle.rc Dle.nil | exact Option.some_ne_none _ | exact Or.inl rfl | exact Or.inr trivial | omega | (simp only [Int.toNat_natCast] at *; omega) | (intro _ _ _ _; exact Dle.of_eq rfl) | refine And.intro ?_ ?_), ?_⟩
      | (refine codeW_cond rfl ?_; first | (refine condW_dec ?_ ?_ <;> intro _ <;> try (exfalso; omega)) | refine condW_not ?_ | (refine condW_bool ?_ ?_ <;> intro _ <;> try (exfalso; omega)))
      | (refine facW_intro ?_; intro _)
      | refine Or.inl ?_
      | ((conv => whnf); first | (refine condW_dec ?_ ?_ <;> intro _ <;> try (exfalso; omega)) | refine condW_not ?_ | (refine condW_bool ?_ ?_ <;> intro _ <;> try (exfalso; omega)) | (refine nbC_t (fun _ => ?_) ?_) | (refine nbC_f ?_ (fun _ => ?_)))
      | refine And.intro (by first | omega | (simp only [Int.toNat_natCast] at *; omega) | (simp only [Nat.reduceAdd, Int.cast_ofNat_Int, true_and, and_true]; omega)  | kernel_rfl) ?_
      | refine RegW.run ?_
      | fail
    all_goals first
      | (exfalso; omega)
      | (have hnext := hnF (by assumption); exact ⟨((k.1 + k.2) / 2 + 1, k.2), ⟨by show a ≤ (k.1 + k.2) / 2 + 1; omega, by show (k.1 + k.2) / 2 + 1 ≤ k.2; omega, k3, hnext, k5⟩, ⟨[], ⟨by kernel_rfl, by kernel_rfl, by kernel_rfl, by kernel_rfl, by kernel_rfl, by kernel_rfl, by kernel_rfl⟩, (by repeat' first | (exact Dle.i (by show _ = (((k.1 + k.2) / 2 + 1 : Nat) : Int); omega)) | exact trivial | exact rfl | kernel_rfl | exact Dle.of_eq rfl | exact MLe.of_eq rfl | exact Dle.i (by omega) | exact Dle.i (by simp only [Int.toNat_natCast] at *; omega) | exact Dle.nil | exact Dle.rc Dle.nil | exact Option.some_ne_none _ | exact Or.inl rfl | exact Or.inr trivial | omega | (simp only [Int.toNat_natCast] at *; omega) | (intro _ _ _ _; exact Dle.of_eq rfl) | refine And.intro ?_ ?_)⟩, by first | omega | (dsimp only; omega)⟩)
      | (have hnext := hnT (by assumption); exact ⟨(k.1, (k.1 + k.2) / 2), ⟨k1, by show k.1 ≤ (k.1 + k.2) / 2; omega, by show (k.1 + k.2) / 2 ≤ m; omega, k4, hnext⟩, ⟨[], ⟨by kernel_rfl, by kernel_rfl, by kernel_rfl, by kernel_rfl, by kernel_rfl, by kernel_rfl, by kernel_rfl⟩, (by repeat' first | (exact Dle.i (by show _ = (((k.1 + k.2) / 2 : Nat) : Int); omega)) | exact trivial | exact rfl | kernel_rfl | exact Dle.of_eq rfl | exact MLe.of_eq rfl | exact Dle.i (by omega) | exact Dle.i (by simp only [Int.toNat_natCast] at *; omega) | exact Dle.nil | exact Dle.rc Dle.nil | exact Option.some_ne_none _ | exact Or.inl rfl | exact Or.inr trivial | omega | (simp only [Int.toNat_natCast] at *; omega) | (intro _ _ _ _; exact Dle.of_eq rfl) | refine And.intro ?_ ?_)⟩, by first | omega | (dsimp only; omega)⟩)
      | trace_state
  · have hend := hM.last hw hc2 k1 (by omega) k4 (fun c c1 c2 => k5 c (by omega) c2)
    refine codeW_seqF rfl ?_
    refine codeW_seqF rfl ?_
    refine codeW_regF rfl ?_
    refine opsW_cons rfl (opN_move (d := i64 k.1) rfl rfl ?_)
    refine opsW_cons rfl (opN_move (d := i64 k.2) rfl rfl ?_)
    refine opsW_cons rfl (opN_bin (d := dB (decide ((k.1 : Int) < k.2))) rfl (fun _ => rfl) ?_)
    refine opsW_nil ?_
    refine codeW_cond (b := decide ((k.1 : Int) < k.2)) rfl ?_
    refine condW_dec ?_ ?_ <;> intro _ <;> try (exfalso; omega)
    repeat' first
      | (refine codeW_cond rfl ?_; first | (refine condW_dec ?_ ?_ <;> intro _ <;> try (exfalso; omega)) | refine condW_not ?_ | (refine condW_bool ?_ ?_ <;> intro _ <;> try (exfalso; omega)))
      | (refine facW_intro ?_; intro _)
      | refine Or.inl ?_
      | ((conv => whnf); first | (refine condW_dec ?_ ?_ <;> intro _ <;> try (exfalso; omega)) | refine condW_not ?_ | (refine condW_bool ?_ ?_ <;> intro _ <;> try (exfalso; omega)) | (refine nbC_t (fun _ => ?_) ?_) | (refine nbC_f ?_ (fun _ => ?_)))
      | refine And.intro (by first | omega | (simp only [Int.toNat_natCast] at *; omega) | (simp only [Nat.reduceAdd, Int.cast_ofNat_Int, true_and, and_true]; omega)  | kernel_rfl) ?_
      | refine RegW.run ?_
      | fail
    refine ⟨Nat, fun j => [(15, i64 j)], fun j => [(2000, .row 3 n (rwI (rot π j m (m + 1))))], [4, 2001, 2002, 2003, 2004], fun j => [], fun j => k.1 ≤ j ∧ j ≤ m, fun j => j, ⟨m, ⟨by omega, Nat.le_refl _⟩, ⟨[], ⟨by kernel_rfl, by kernel_rfl, by kernel_rfl, by kernel_rfl, by kernel_rfl, by kernel_rfl, by kernel_rfl⟩, (by repeat' first | ((intro i' j' hi' hj'; rw [rot_none1]; exact Dle.refl _ _)) | exact trivial | exact rfl | kernel_rfl | exact Dle.of_eq rfl | exact MLe.of_eq rfl | exact Dle.i (by omega) | exact Dle.i (by simp only [Int.toNat_natCast] at *; omega) | exact Dle.nil | exact Dle.rc Dle.nil | exact Option.some_ne_none _ | exact Or.inl rfl | exact Or.inr trivial | omega | (simp only [Int.toNat_natCast] at *; omega) | (intro _ _ _ _; exact Dle.of_eq rfl) | refine And.intro ?_ ?_)⟩⟩, fun j hj => ?_⟩
    obtain ⟨j1, j2⟩ := hj
    have hin2 := rot_in (a := j) (m := m) (b := m + 1) hπ (by omega) (by omega) (by omega)
    by_cases hj3 : k.1 < j
    · have hdn : swp (rot π j m (m + 1)) ((j : Int)).toNat ((j : Int) - 1).toNat = rot π (j - 1) m (m + 1) := by
        rw [Int.toNat_natCast, show ((j : Int) - 1).toNat = j - 1 by omega]
        exact rot_down j2 (by omega)
      repeat' first
        | refine Or.inr ⟨_, _, _, Or.inr (swap_x E n hn (rot π j m (m + 1)) hin2 _ _ (by omega) (by omega) (by omega) (by omega)), by kernel_rfl, (by repeat' first | exact trivial | exact rfl | kernel_rfl | exact Dle.of_eq rfl | exact MLe.of_eq rfl | exact Dle.i (by omega) | exact Dle.i (by simp only [Int.toNat_natCast] at *; omega) | exact Dle.nil | exact Dle.rc Dle.nil | exact Option.some_ne_none _ | exact Or.inl rfl | exact Or.inr trivial | omega | (simp only [Int.toNat_natCast] at *; omega) | (intro _ _ _ _; exact Dle.of_eq rfl) | refine And.intro ?_ ?_), ?_⟩
        | (refine codeW_cond rfl ?_; first | (refine condW_dec ?_ ?_ <;> intro _ <;> try (exfalso; omega)) | refine condW_not ?_ | (refine condW_bool ?_ ?_ <;> intro _ <;> try (exfalso; omega)))
        | (refine facW_intro ?_; intro _)
        | refine Or.inl ?_
        | ((conv => whnf); first | (refine condW_dec ?_ ?_ <;> intro _ <;> try (exfalso; omega)) | refine condW_not ?_ | (refine condW_bool ?_ ?_ <;> intro _ <;> try (exfalso; omega)) | (refine nbC_t (fun _ => ?_) ?_) | (refine nbC_f ?_ (fun _ => ?_)))
        | refine And.intro (by first | omega | (simp only [Int.toNat_natCast] at *; omega) | (simp only [Nat.reduceAdd, Int.cast_ofNat_Int, true_and, and_true]; omega)  | kernel_rfl) ?_
        | refine RegW.run ?_
        | fail
      all_goals first
        | (exfalso; omega)
        | exact ⟨j - 1, by omega, ⟨[], ⟨by kernel_rfl, by kernel_rfl, by kernel_rfl, by kernel_rfl, by kernel_rfl, by kernel_rfl, by kernel_rfl⟩, (by repeat' first | (first | (intro i' j' hi' hj'; rw [hdn]; exact Dle.refl _ _) | exact Dle.i (by omega)) | exact trivial | exact rfl | kernel_rfl | exact Dle.of_eq rfl | exact MLe.of_eq rfl | exact Dle.i (by omega) | exact Dle.i (by simp only [Int.toNat_natCast] at *; omega) | exact Dle.nil | exact Dle.rc Dle.nil | exact Option.some_ne_none _ | exact Or.inl rfl | exact Or.inr trivial | omega | (simp only [Int.toNat_natCast] at *; omega) | (intro _ _ _ _; exact Dle.of_eq rfl) | refine And.intro ?_ ?_)⟩, by first | omega | (dsimp only; omega)⟩
        | trace_state
    · have hje : j = k.1 := by omega
      repeat' first
        | (refine codeW_cond rfl ?_; first | (refine condW_dec ?_ ?_ <;> intro _ <;> try (exfalso; omega)) | refine condW_not ?_ | (refine condW_bool ?_ ?_ <;> intro _ <;> try (exfalso; omega)))
        | (refine facW_intro ?_; intro _)
        | refine Or.inl ?_
        | ((conv => whnf); first | (refine condW_dec ?_ ?_ <;> intro _ <;> try (exfalso; omega)) | refine condW_not ?_ | (refine condW_bool ?_ ?_ <;> intro _ <;> try (exfalso; omega)) | (refine nbC_t (fun _ => ?_) ?_) | (refine nbC_f ?_ (fun _ => ?_)))
        | refine And.intro (by first | omega | (simp only [Int.toNat_natCast] at *; omega) | (simp only [Nat.reduceAdd, Int.cast_ofNat_Int, true_and, and_true]; omega)  | kernel_rfl) ?_
        | refine RegW.run ?_
        | fail
      all_goals first
        | (exfalso; omega)
        | exact ⟨[(2000, .row 3 n (rwI (srt lt id π a b))), (2001, .cells [.sl ks kb kn kf]), (2002, .cells [.own 2003 1 0 vm]), (2003, .row 22 vm fv), (2004, .cells [.own 2000 1 0 n])], [], rfl, ⟨[], ⟨by kernel_rfl, by kernel_rfl, by kernel_rfl, by kernel_rfl, by kernel_rfl, by kernel_rfl, by kernel_rfl⟩, (by repeat' first | ((intro i' j' hi' hj'; rw [hend, hje]; exact Dle.refl _ _)) | exact trivial | exact rfl | kernel_rfl | exact Dle.of_eq rfl | exact MLe.of_eq rfl | exact Dle.i (by omega) | exact Dle.i (by simp only [Int.toNat_natCast] at *; omega) | exact Dle.nil | exact Dle.rc Dle.nil | exact Option.some_ne_none _ | exact Or.inl rfl | exact Or.inr trivial | omega | (simp only [Int.toNat_natCast] at *; omega) | (intro _ _ _ _; exact Dle.of_eq rfl) | refine And.intro ?_ ?_)⟩, rfl⟩
        | trace_state

end
end
end sb
end Go.Proofs.YthoemnhigboahaaGreatDoor
