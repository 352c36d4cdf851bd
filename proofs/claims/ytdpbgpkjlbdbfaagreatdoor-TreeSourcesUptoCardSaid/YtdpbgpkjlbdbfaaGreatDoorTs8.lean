/-
  Sources of a tree: settings of wrong kinds, by the reference; a package's map of kinds.
-/
import Derived.Test.YtdpbgpkjlbdbfaaGreatDoorTs7
namespace Go.Proofs.YtdpbgpkjlbdbfaaGreatDoor
open Go.RowKit
set_option linter.unusedVariables false
set_option linter.unusedSimpArgs false
namespace ts
open rs
def kindN (k : ByteArray) : Int := if 0 ≤ kindK k then kindK k else 0
/-- What the reference says of settings of wrong kinds. -/
def wk1 (k : ByteArray) (x : Vu) : Bool := decide (0 ≤ kindK k) && (decide (¬ x.kind = kindN k) || (decide (k = (⟨#[97, 108, 105, 97, 115, 101, 115]⟩ : ByteArray)) && !strB x) || (decide (k = (⟨#[109, 101, 110, 117, 115]⟩ : ByteArray)) && x.items.any (fun y => decide (y.kind ≠ 6))))
def wrongR (v : Vu) : Bool := !allN v.keys.length (fun i => !wk1 (v.keys.getD i ⟨#[]⟩) (v.items.getD i .zero)) || casc (itemK v (⟨#[99, 97, 115, 99, 97, 100, 101]⟩ : ByteArray))
theorem any_eq (l : List Vu) (k : Int) : anyK l k = l.any (fun y => decide (y.kind ≠ k)) := by
  unfold anyK
  rw [Bool.eq_iff_iff, List.any_eq_true]
  simp only [Bool.not_eq_true', Bool.eq_false_iff]
  constructor
  · intro h
    refine Classical.byContradiction fun h2 => h ?_
    rw [allN_iff]
    intro i hi
    refine decide_eq_true (Classical.byContradiction fun h3 => h2 ⟨l.getD i .zero, getD_mem l .zero i hi, decide_eq_true h3⟩)
  · rintro ⟨x, hx, h2⟩ h3
    obtain ⟨i, hi, rfl⟩ := List.getElem_of_mem hx
    have := allN_iff.1 h3 i hi
    rw [List.getD, List.getElem?_eq_getElem hi] at this
    simp only [Option.getD_some, decide_eq_true_eq] at this h2
    exact h2 this
theorem wk1_eq (k : ByteArray) (x : Vu) : wk1 k x = wk0 k x := by
  unfold wk1 wk0
  by_cases h : 0 ≤ kindK k
  · have hn : kindN k = kindK k := if_pos h
    rw [hn, any_eq, any_eq, decide_eq_true h, Bool.true_and, Bool.true_and]
    by_cases hx : x.kind = kindK k
    · by_cases ha : k = (⟨#[97, 108, 105, 97, 115, 101, 115]⟩ : ByteArray)
      · have h5 : x.kind = 5 := by rw [hx, ha]; decide
        unfold strB
        rw [decide_eq_true h5, Bool.true_and, Bool.not_not]
      · rw [decide_eq_false ha, Bool.false_and, Bool.false_and]
    · rw [decide_eq_true hx]
      simp
  · have ha : ¬ k = (⟨#[97, 108, 105, 97, 115, 101, 115]⟩ : ByteArray) := fun e => h (by rw [e]; decide)
    have hm : ¬ k = (⟨#[109, 101, 110, 117, 115]⟩ : ByteArray) := fun e => h (by rw [e]; decide)
    rw [decide_eq_false h, decide_eq_false ha, decide_eq_false hm]
    simp
theorem six_kind {k : ByteArray} (h : sixB k = true) : kindN k = kindK k := by
  unfold sixB at h
  simp only [Bool.or_eq_true, decide_eq_true_eq] at h
  rcases h with ((((rfl | rfl) | rfl) | rfl) | rfl) | rfl <;> decide
theorem casc_zero : casc .zero = false := rfl
theorem wrong_eq {v : Vu} (hf : faultE v = 0) (h6 : v.kind = 6) : wrongB v = wrongR v := by
  obtain ⟨hs, hl⟩ := fault_keys hf
  unfold wrongR
  simp only [wk1_eq]
  by_cases hc : hasK v (⟨#[99, 97, 115, 99, 97, 100, 101]⟩ : ByteArray) = true
  · obtain ⟨h1, h2⟩ := has_key hc
    have hi : itemK v (⟨#[99, 97, 115, 99, 97, 100, 101]⟩ : ByteArray) = v.items.getD (findK v (⟨#[99, 97, 115, 99, 97, 100, 101]⟩ : ByteArray)) .zero := by
      unfold itemK getK
      rw [if_pos hc]
      rfl
    rw [hi]
    generalize findK v (⟨#[99, 97, 115, 99, 97, 100, 101]⟩ : ByteArray) = m at h1 h2
    cases hq : casc (v.items.getD m .zero)
    · rw [Bool.or_false]
      unfold wrongB
      congr 1
      rw [Bool.eq_iff_iff, allN_iff, allN_iff]
      refine forall_congr' fun i => forall_congr' fun hi => ?_
      unfold wk
      by_cases e : v.keys.getD i ⟨#[]⟩ = (⟨#[99, 97, 115, 99, 97, 100, 101]⟩ : ByteArray)
      · have : i = m := (find_at hs hi e).1.symm.trans (find_at hs h1 h2).1
        subst this
        rw [hq, Bool.and_false, Bool.or_false]
      · rw [decide_eq_false e, Bool.false_and, Bool.or_false]
    · rw [Bool.or_true]
      unfold wrongB
      rw [allN_no h1 (by unfold wk; rw [h2, hq]; simp)]
      rfl
  · have hi : itemK v (⟨#[99, 97, 115, 99, 97, 100, 101]⟩ : ByteArray) = .zero := by
      unfold itemK getK
      rw [if_neg hc]
      rfl
    rw [hi, casc_zero, Bool.or_false]
    unfold wrongB
    congr 1
    rw [Bool.eq_iff_iff, allN_iff, allN_iff]
    refine forall_congr' fun i => forall_congr' fun hi => ?_
    unfold wk
    have e : ¬ v.keys.getD i ⟨#[]⟩ = (⟨#[99, 97, 115, 99, 97, 100, 101]⟩ : ByteArray) := fun e => hc ((hasK_iff hs).2 ⟨i, hi, e⟩)
    rw [decide_eq_false e, Bool.false_and, Bool.or_false]
/-- The variable of the kinds of settings: its map lies at block b. -/
def kindsGv (b g : Nat) : DD := match Nat.beq g 1 with | true => .ref 1 (fun _ => .v (.map (some b))) | false => .opq
def kEnv (E : Env) (b : Nat) (hg : ∀ w, E.G w → ∀ g, Rep view E.MG w b0 (kindsGv b g) (.pointer (some ⟨g, 0, none⟩))) : Env := { E with gv := kindsGv b, gok := hg }
section
variable (E : Env)
set_option maxRecDepth 100000
theorem indexFV_sp (fi : FuncId) (p : Vu → Bool) (h : ∀ x, Sp (cx Tryz.prog mixed tyT_ok E) fi [encV x] (dB (p x))) (l : List Vu) : Sp (cx Tryz.prog mixed tyT_ok E) 280 [.rc (.vals l), .fn fi []] (i64 (idxF .zero p l 0)) := by
  obtain ⟨r, hr⟩ : ∃ r, r = idxF .zero p l 0 := ⟨_, rfl⟩
  rw [← hr]
  refine Sp.body Tryz.func280 (by kernel_rfl) rfl (by kernel_rfl) (by kernel_rfl) (by kernel_rfl) ?_
  repeat' first
    | (refine codeW_cond rfl ?_; first | (refine condW_dec ?_ ?_ <;> intro _ <;> try (exfalso; omega)) | refine condW_not ?_ | (refine condW_bool ?_ ?_ <;> intro _ <;> try (exfalso; omega)))
    | (refine facW_intro ?_; intro _)
    | refine Or.inl ?_
    | ((conv => whnf); first | (refine condW_dec ?_ ?_ <;> intro _) | refine condW_not ?_ | (refine condW_bool ?_ ?_ <;> intro _) | (refine nbC_t (fun _ => ?_) ?_) | (refine nbC_f ?_ (fun _ => ?_)))
    | refine And.intro (by first | omega | (simp only [Int.toNat_natCast] at *; omega) | (simp only [Nat.reduceAdd, Int.cast_ofNat_Int, true_and, and_true]; omega) | kernel_rfl) ?_
    | refine RegW.run ?_
    | fail
  refine ⟨Nat, fun k => [(8, i64 k)], fun k => [], [], fun k => [], fun k => k ≤ l.length ∧ r = idxF .zero p l k, fun k => l.length - k, ⟨0, ⟨by omega, hr⟩, ⟨[], ⟨by kernel_rfl, by kernel_rfl, by kernel_rfl, by kernel_rfl, by kernel_rfl, by kernel_rfl, by kernel_rfl⟩, (by repeat' first | exact trivial | exact rfl | kernel_rfl | exact Dle.of_eq rfl | exact MLe.of_eq rfl | exact Dle.i (by omega) | exact Dle.i (by simp only [Int.toNat_natCast] at *; omega) | exact Dle.nil | exact Dle.rc Dle.nil | exact Option.some_ne_none _ | exact Or.inl rfl | exact Or.inr trivial | omega | (simp only [Int.toNat_natCast] at *; omega) | (intro _ _ _ _; exact Dle.of_eq rfl) | refine And.intro ?_ ?_)⟩⟩, fun k hk => ?_⟩
  obtain ⟨hk, hK⟩ := hk
  rw [idxF] at hK
  by_cases hlt : k < l.length
  · rw [if_pos hlt] at hK
    have h1 := h (l.getD k .zero)
    generalize p (l.getD k .zero) = b at h1 hK
    cases b
    · repeat' first
        | (refine codeW_cond rfl ?_; first | (refine condW_dec ?_ ?_ <;> intro _ <;> try (exfalso; omega)) | refine condW_not ?_ | (refine condW_bool ?_ ?_ <;> intro _ <;> try (exfalso; omega)))
        | (refine facW_intro ?_; intro _)
        | refine Or.inl ?_
        | ((conv => whnf); first | (refine condW_dec ?_ ?_ <;> intro _ <;> try (exfalso; omega)) | refine condW_not ?_ | (refine condW_bool ?_ ?_ <;> intro _ <;> try (exfalso; omega)) | (refine nbC_t (fun _ => ?_) ?_) | (refine nbC_f ?_ (fun _ => ?_)))
        | refine And.intro (by first | omega | (simp only [Int.toNat_natCast] at *; omega) | (simp only [Nat.reduceAdd, Int.cast_ofNat_Int, true_and, and_true]; omega) | kernel_rfl) ?_
        | refine RegW.run ?_
        | refine ⟨_, h1, ?_⟩
        | fail
      all_goals first
        | exact ⟨k + 1, ⟨by omega, hK⟩, ⟨[], ⟨by kernel_rfl, by kernel_rfl, by kernel_rfl, by kernel_rfl, by kernel_rfl, by kernel_rfl, by kernel_rfl⟩, (by repeat' first | exact trivial | exact rfl | kernel_rfl | exact Dle.of_eq rfl | exact MLe.of_eq rfl | exact Dle.i (by omega) | exact Dle.i (by simp only [Int.toNat_natCast] at *; omega) | exact Dle.nil | exact Dle.rc Dle.nil | exact Option.some_ne_none _ | exact Or.inl rfl | exact Or.inr trivial | omega | (simp only [Int.toNat_natCast] at *; omega) | (intro _ _ _ _; exact Dle.of_eq rfl) | refine And.intro ?_ ?_)⟩, by first | omega | (dsimp only; omega)⟩
        | trace_state
    · repeat' first
        | (refine codeW_cond rfl ?_; first | (refine condW_dec ?_ ?_ <;> intro _ <;> try (exfalso; omega)) | refine condW_not ?_ | (refine condW_bool ?_ ?_ <;> intro _ <;> try (exfalso; omega)))
        | (refine facW_intro ?_; intro _)
        | refine Or.inl ?_
        | ((conv => whnf); first | (refine condW_dec ?_ ?_ <;> intro _ <;> try (exfalso; omega)) | refine condW_not ?_ | (refine condW_bool ?_ ?_ <;> intro _ <;> try (exfalso; omega)) | (refine nbC_t (fun _ => ?_) ?_) | (refine nbC_f ?_ (fun _ => ?_)))
        | refine And.intro (by first | omega | (simp only [Int.toNat_natCast] at *; omega) | (simp only [Nat.reduceAdd, Int.cast_ofNat_Int, true_and, and_true]; omega) | kernel_rfl) ?_
        | refine RegW.run ?_
        | refine ⟨_, h1, ?_⟩
        | fail
      all_goals first
        | exact Dle.i hK.symm
        | trace_state
  · rw [if_neg hlt] at hK
    repeat' first
      | (refine codeW_cond rfl ?_; first | (refine condW_dec ?_ ?_ <;> intro _ <;> try (exfalso; omega)) | refine condW_not ?_ | (refine condW_bool ?_ ?_ <;> intro _ <;> try (exfalso; omega)))
      | (refine facW_intro ?_; intro _)
      | refine Or.inl ?_
      | ((conv => whnf); first | (refine condW_dec ?_ ?_ <;> intro _ <;> try (exfalso; omega)) | refine condW_not ?_ | (refine condW_bool ?_ ?_ <;> intro _ <;> try (exfalso; omega)) | (refine nbC_t (fun _ => ?_) ?_) | (refine nbC_f ?_ (fun _ => ?_)))
      | refine And.intro (by first | omega | (simp only [Int.toNat_natCast] at *; omega) | (simp only [Nat.reduceAdd, Int.cast_ofNat_Int, true_and, and_true]; omega) | kernel_rfl) ?_
      | refine RegW.run ?_
      | fail
    all_goals first
      | exact Dle.i hK.symm
      | trace_state
theorem containsFV_sp (fi : FuncId) (p : Vu → Bool) (h : ∀ x, Sp (cx Tryz.prog mixed tyT_ok E) fi [encV x] (dB (p x))) (l : List Vu) : Sp (cx Tryz.prog mixed tyT_ok E) 243 [.rc (.vals l), .fn fi []] (dB (l.any p)) := by
  have hi := indexFV_sp E fi p h l
  have e := idxF_any .zero p l (l.length + 1) 0 (by omega)
  rw [List.drop_zero] at e
  rw [← e]
  generalize idxF .zero p l 0 = r at hi
  refine Sp.body Tryz.func243 (by kernel_rfl) rfl (by kernel_rfl) (by kernel_rfl) (by kernel_rfl) ?_
  repeat' first
    | (refine codeW_cond rfl ?_; first | (refine condW_dec ?_ ?_ <;> intro _ <;> try (exfalso; omega)) | refine condW_not ?_ | (refine condW_bool ?_ ?_ <;> intro _ <;> try (exfalso; omega)))
    | (refine facW_intro ?_; intro _)
    | refine Or.inl ?_
    | ((conv => whnf); first | (refine condW_dec ?_ ?_ <;> intro _) | refine condW_not ?_ | (refine condW_bool ?_ ?_ <;> intro _) | (refine nbC_t (fun _ => ?_) ?_) | (refine nbC_f ?_ (fun _ => ?_)))
    | refine And.intro (by first | omega | (simp only [Int.toNat_natCast] at *; omega) | (simp only [Nat.reduceAdd, Int.cast_ofNat_Int, true_and, and_true]; omega) | kernel_rfl) ?_
    | refine RegW.run ?_
    | refine ⟨_, hi, ?_⟩
    | fail
  all_goals exact Dle.refl _ _
theorem notTab_sp (x : Vu) : Sp (cx Tryz.prog mixed tyT_ok E) 244 [encV x] (dB (decide (x.kind ≠ 6))) := by
  refine Sp.body Tryz.func244 (by kernel_rfl) rfl (by kernel_rfl) (by kernel_rfl) (by kernel_rfl) ?_
  repeat' first
    | (refine codeW_cond rfl ?_; first | (refine condW_dec ?_ ?_ <;> intro _ <;> try (exfalso; omega)) | refine condW_not ?_ | (refine condW_bool ?_ ?_ <;> intro _ <;> try (exfalso; omega)))
    | (refine facW_intro ?_; intro _)
    | refine Or.inl ?_
    | ((conv => whnf); first | (refine condW_dec ?_ ?_ <;> intro _ <;> try (exfalso; omega)) | refine condW_not ?_ | (refine condW_bool ?_ ?_ <;> intro _ <;> try (exfalso; omega)) | (refine nbC_t (fun _ => ?_) ?_) | (refine nbC_f ?_ (fun _ => ?_)))
    | refine And.intro (by first | omega | (simp only [Int.toNat_natCast] at *; omega) | (simp only [Nat.reduceAdd, Int.cast_ofNat_Int, true_and, and_true]; omega) | kernel_rfl) ?_
    | refine RegW.run ?_
    | fail
  all_goals first
    | exact Dle.bo (by simp)
    | exact Dle.refl _ _
    | trace_state
set_option maxHeartbeats 4000000 in
theorem wrongKinds_sp (b : Nat) (E0 : Env) (hg : ∀ w, E0.G w → ∀ g, Rep view E0.MG w b0 (kindsGv b g) (.pointer (some ⟨g, 0, none⟩))) (hE : E = kEnv E0 b hg) (hm : ∃ es, GMap (cx Tryz.prog mixed tyT_ok E) .str b es ∧ ∀ k, Look es (.string k) (i64 0) (decide (0 ≤ kindK k), i64 (kindN k))) (v : Vu) (hf : faultE v = 0) (h6 : v.kind = 6) : Sp (cx Tryz.prog mixed tyT_ok E) 190 [encV v] (dB (wrongR v)) := by
  subst hE
  obtain ⟨es, hm, look_kinds⟩ := hm
  obtain ⟨r, hr⟩ : ∃ r, r = wrongR v := ⟨_, rfl⟩
  rw [← hr]
  unfold wrongR at hr
  have hlen := (fault_keys hf).2 h6
  have hno : ∀ k, k < v.keys.length → wk1 (v.keys.getD k ⟨#[]⟩) (v.items.getD k .zero) = true → r = true := fun k hk h => by
    rw [hr, allN_no hk (by rw [h]; rfl)]; rfl
  have hy : allN v.keys.length (fun i => !wk1 (v.keys.getD i ⟨#[]⟩) (v.items.getD i .zero)) = true → r = casc (itemK v (⟨#[99, 97, 115, 99, 97, 100, 101]⟩ : ByteArray)) := fun h => by
    rw [hr, h]; rfl
  clear hr
  have hc := has_sp (kEnv E0 b hg) v (⟨#[99, 97, 115, 99, 97, 100, 101]⟩ : ByteArray) hf
  have hcf := item_fault hf (⟨#[99, 97, 115, 99, 97, 100, 101]⟩ : ByteArray)
  have hcl : allN v.keys.length (fun i => !wk1 (v.keys.getD i ⟨#[]⟩) (v.items.getD i .zero)) = true → (itemK v (⟨#[99, 97, 115, 99, 97, 100, 101]⟩ : ByteArray)).keys.length = (itemK v (⟨#[99, 97, 115, 99, 97, 100, 101]⟩ : ByteArray)).items.length := fun h => by
    by_cases hk : hasK v (⟨#[99, 97, 115, 99, 97, 100, 101]⟩ : ByteArray) = true
    · obtain ⟨h1, h2⟩ := has_key hk
      have hi : itemK v (⟨#[99, 97, 115, 99, 97, 100, 101]⟩ : ByteArray) = v.items.getD (findK v (⟨#[99, 97, 115, 99, 97, 100, 101]⟩ : ByteArray)) .zero := by
        unfold itemK getK
        rw [if_pos hk]
        rfl
      have h3 := allN_iff.1 h _ h1
      rw [h2, ← hi, Bool.not_eq_true'] at h3
      refine (fault_keys hcf).2 (Classical.byContradiction fun h4 => ?_)
      have h5 : wk1 (⟨#[99, 97, 115, 99, 97, 100, 101]⟩ : ByteArray) (itemK v (⟨#[99, 97, 115, 99, 97, 100, 101]⟩ : ByteArray)) = true := by
        unfold wk1
        rw [decide_eq_true (p := ¬ (itemK v (⟨#[99, 97, 115, 99, 97, 100, 101]⟩ : ByteArray)).kind = kindN (⟨#[99, 97, 115, 99, 97, 100, 101]⟩ : ByteArray)) (fun e => h4 (e.trans (by decide)))]
        rfl
      rw [h5] at h3
      cases h3
    · have hi : itemK v (⟨#[99, 97, 115, 99, 97, 100, 101]⟩ : ByteArray) = .zero := by
        unfold itemK getK
        rw [if_neg hk]
        rfl
      rw [hi]
      rfl
  generalize itemK v (⟨#[99, 97, 115, 99, 97, 100, 101]⟩ : ByteArray) = c at hc hcf hy hcl
  generalize hasK v (⟨#[99, 97, 115, 99, 97, 100, 101]⟩ : ByteArray) = cb at hc
  refine Sp.body Tryz.func190 (by kernel_rfl) rfl (by kernel_rfl) (by kernel_rfl) (by kernel_rfl) ?_
  repeat' first
    | (refine codeW_cond rfl ?_; first | (refine condW_dec ?_ ?_ <;> intro _ <;> try (exfalso; omega)) | refine condW_not ?_ | (refine condW_bool ?_ ?_ <;> intro _ <;> try (exfalso; omega)))
    | (refine facW_intro ?_; intro _)
    | refine Or.inl ?_
    | ((conv => whnf); first | (refine condW_dec ?_ ?_ <;> intro _ <;> try (exfalso; omega)) | refine condW_not ?_ | (refine condW_bool ?_ ?_ <;> intro _ <;> try (exfalso; omega)) | (refine nbC_t (fun _ => ?_) ?_) | (refine nbC_f ?_ (fun _ => ?_)))
    | refine And.intro (by first | omega | (simp only [Int.toNat_natCast] at *; omega) | (simp only [Nat.reduceAdd, Int.cast_ofNat_Int, true_and, and_true]; omega) | kernel_rfl) ?_
    | refine RegW.run ?_
    | refine ⟨_, hc, ?_⟩
    | fail
  refine ⟨Nat, fun k => [(15, i64 k)], fun k => [], [1], fun k => [], fun k => k ≤ v.keys.length ∧ allN k (fun i => !wk1 (v.keys.getD i ⟨#[]⟩) (v.items.getD i .zero)) = true, fun k => v.keys.length - k, ⟨0, ⟨by omega, rfl⟩, ⟨[], ⟨by kernel_rfl, by kernel_rfl, by kernel_rfl, by kernel_rfl, by kernel_rfl, by kernel_rfl, by kernel_rfl⟩, (by repeat' first | exact trivial | exact rfl | kernel_rfl | exact Dle.of_eq rfl | exact MLe.of_eq rfl | exact Dle.i (by omega) | exact Dle.i (by simp only [Int.toNat_natCast] at *; omega) | exact Dle.nil | exact Dle.rc Dle.nil | exact Option.some_ne_none _ | exact Or.inl rfl | exact Or.inr trivial | omega | (simp only [Int.toNat_natCast] at *; omega) | (intro _ _ _ _; exact Dle.of_eq rfl) | refine And.intro ?_ ?_)⟩⟩, fun k hk => ?_⟩
  obtain ⟨hk, hall⟩ := hk
  by_cases hlt : k < v.keys.length
  · have hn := hno k hlt
    have hn : wk1 (v.keys.getD ((k : Int)).toNat ⟨#[]⟩) (v.items.getD ((k : Int)).toNat .zero) = true → r = true := hn
    have hs : wk1 (v.keys.getD ((k : Int)).toNat ⟨#[]⟩) (v.items.getD ((k : Int)).toNat .zero) = false → allN (k + 1) (fun i => !wk1 (v.keys.getD i ⟨#[]⟩) (v.items.getD i .zero)) = true := fun h => allN_succ hall (by rw [show wk1 (v.keys.getD k ⟨#[]⟩) (v.items.getD k .zero) = false from h]; rfl)
    have l1 := look_kinds (v.keys.getD ((k : Int)).toNat ⟨#[]⟩)
    have c1 := allStrings_sp (kEnv E0 b hg) (v.items.getD ((k : Int)).toNat .zero)
    have c2 := containsFV_sp (kEnv E0 b hg) 244 (fun x => decide (x.kind ≠ 6)) (notTab_sp (kEnv E0 b hg)) (v.items.getD ((k : Int)).toNat .zero).items
    obtain ⟨z, hz⟩ : ∃ z, z = wk1 (v.keys.getD ((k : Int)).toNat ⟨#[]⟩) (v.items.getD ((k : Int)).toNat .zero) := ⟨_, rfl⟩
    rw [← hz] at hn hs
    unfold wk1 at hz
    generalize decide (0 ≤ kindK (v.keys.getD ((k : Int)).toNat ⟨#[]⟩)) = q at l1 hz
    generalize kindN (v.keys.getD ((k : Int)).toNat ⟨#[]⟩) = K at l1 hz
    generalize strB (v.items.getD ((k : Int)).toNat .zero) = sb at c1 hz
    generalize ((v.items.getD ((k : Int)).toNat .zero).items.any fun y => decide (y.kind ≠ 6)) = ab at c2 hz
    cases z
    · have hr := hs rfl
      repeat' first
        | (refine codeW_cond rfl ?_; first | (refine condW_dec ?_ ?_ <;> intro _ <;> try (exfalso; omega)) | refine condW_not ?_ | (refine condW_bool ?_ ?_ <;> intro _ <;> try (exfalso; omega)))
        | (refine facW_intro ?_; intro _)
        | refine Or.inl ?_
        | ((conv => whnf); first | (refine condW_dec ?_ ?_ <;> intro _ <;> try (exfalso; omega)) | refine condW_not ?_ | (refine condW_bool ?_ ?_ <;> intro _ <;> try (exfalso; omega)) | (refine nbC_t (fun _ => ?_) ?_) | (refine nbC_f ?_ (fun _ => ?_)))
        | refine And.intro (by first | omega | (simp only [Int.toNat_natCast] at *; omega) | (simp only [Nat.reduceAdd, Int.cast_ofNat_Int, true_and, and_true]; omega) | kernel_rfl) ?_
        | refine RegW.run ?_
        | refine ⟨_, hm, ?_⟩
        | refine ⟨_, l1, ?_⟩
        | refine ⟨_, c1, ?_⟩
        | refine ⟨_, c2, ?_⟩
        | fail
      all_goals first
        | exact ⟨k + 1, ⟨by omega, hr⟩, ⟨[], ⟨by kernel_rfl, by kernel_rfl, by kernel_rfl, by kernel_rfl, by kernel_rfl, by kernel_rfl, by kernel_rfl⟩, (by repeat' first | exact trivial | exact rfl | kernel_rfl | exact Dle.of_eq rfl | exact MLe.of_eq rfl | exact Dle.i (by omega) | exact Dle.i (by simp only [Int.toNat_natCast] at *; omega) | exact Dle.nil | exact Dle.rc Dle.nil | exact Option.some_ne_none _ | exact Or.inl rfl | exact Or.inr trivial | omega | (simp only [Int.toNat_natCast] at *; omega) | (intro _ _ _ _; exact Dle.of_eq rfl) | refine And.intro ?_ ?_)⟩, by first | omega | (dsimp only; omega)⟩
        | (exfalso; clear hno hy hall hc hm hcf hcl hf hlen hn hs l1 c1 c2 hr; grind)
        | trace_state
    · have hr := hn rfl
      repeat' first
        | (refine codeW_cond rfl ?_; first | (refine condW_dec ?_ ?_ <;> intro _ <;> try (exfalso; omega)) | refine condW_not ?_ | (refine condW_bool ?_ ?_ <;> intro _ <;> try (exfalso; omega)))
        | (refine facW_intro ?_; intro _)
        | refine Or.inl ?_
        | ((conv => whnf); first | (refine condW_dec ?_ ?_ <;> intro _ <;> try (exfalso; omega)) | refine condW_not ?_ | (refine condW_bool ?_ ?_ <;> intro _ <;> try (exfalso; omega)) | (refine nbC_t (fun _ => ?_) ?_) | (refine nbC_f ?_ (fun _ => ?_)))
        | refine And.intro (by first | omega | (simp only [Int.toNat_natCast] at *; omega) | (simp only [Nat.reduceAdd, Int.cast_ofNat_Int, true_and, and_true]; omega) | kernel_rfl) ?_
        | refine RegW.run ?_
        | refine ⟨_, hm, ?_⟩
        | refine ⟨_, l1, ?_⟩
        | refine ⟨_, c1, ?_⟩
        | refine ⟨_, c2, ?_⟩
        | fail
      all_goals first
        | exact Dle.bo hr.symm
        | (exfalso; clear hno hy hall hc hm hcf hcl hf hlen hn hs l1 c1 c2 hr; grind)
        | trace_state
  · obtain rfl : k = v.keys.length := by omega
    have hr := hy hall
    have hln := hcl hall
    repeat' first
      | (refine codeW_cond rfl ?_; first | (refine condW_dec ?_ ?_ <;> intro _ <;> try (exfalso; omega)) | refine condW_not ?_ | (refine condW_bool ?_ ?_ <;> intro _ <;> try (exfalso; omega)))
      | (refine facW_intro ?_; intro _)
      | refine Or.inl ?_
      | ((conv => whnf); first | (refine condW_dec ?_ ?_ <;> intro _ <;> try (exfalso; omega)) | refine condW_not ?_ | (refine condW_bool ?_ ?_ <;> intro _ <;> try (exfalso; omega)) | (refine nbC_t (fun _ => ?_) ?_) | (refine nbC_f ?_ (fun _ => ?_)))
      | refine And.intro (by first | omega | (simp only [Int.toNat_natCast] at *; omega) | (simp only [Nat.reduceAdd, Int.cast_ofNat_Int, true_and, and_true]; omega) | kernel_rfl) ?_
      | refine RegW.run ?_
      | refine ⟨_, hc, ?_⟩
      | fail
    refine ⟨Nat, fun j => [(62, i64 j)], fun j => [], [8], fun j => [], fun j => j ≤ c.keys.length ∧ allN j (fun n => !casc1 c n) = true, fun j => c.keys.length - j, ⟨0, ⟨by omega, rfl⟩, ⟨[], ⟨by kernel_rfl, by kernel_rfl, by kernel_rfl, by kernel_rfl, by kernel_rfl, by kernel_rfl, by kernel_rfl⟩, (by repeat' first | exact trivial | exact rfl | kernel_rfl | exact Dle.of_eq rfl | exact MLe.of_eq rfl | exact Dle.i (by omega) | exact Dle.i (by simp only [Int.toNat_natCast] at *; omega) | exact Dle.nil | exact Dle.rc Dle.nil | exact Option.some_ne_none _ | exact Or.inl rfl | exact Or.inr trivial | omega | (simp only [Int.toNat_natCast] at *; omega) | (intro _ _ _ _; exact Dle.of_eq rfl) | refine And.intro ?_ ?_)⟩⟩, fun j hj => ?_⟩
    obtain ⟨hj, hj2⟩ := hj
    by_cases hjl : j < c.keys.length
    · have l2 := look_kinds (c.keys.getD ((j : Int)).toNat ⟨#[]⟩)
      have hc1 : casc1 c j = (sixB (c.keys.getD ((j : Int)).toNat ⟨#[]⟩) && decide (¬ (c.items.getD ((j : Int)).toNat .zero).kind = kindK (c.keys.getD ((j : Int)).toNat ⟨#[]⟩))) := rfl
      have hkn : sixB (c.keys.getD ((j : Int)).toNat ⟨#[]⟩) = true → kindN (c.keys.getD ((j : Int)).toNat ⟨#[]⟩) = kindK (c.keys.getD ((j : Int)).toNat ⟨#[]⟩) := fun h => six_kind h
      generalize decide (0 ≤ kindK (c.keys.getD ((j : Int)).toNat ⟨#[]⟩)) = q at l2
      generalize kindN (c.keys.getD ((j : Int)).toNat ⟨#[]⟩) = K at l2 hkn
      generalize kindK (c.keys.getD ((j : Int)).toNat ⟨#[]⟩) = K2 at hc1 hkn
      unfold sixB at hc1 hkn
      cases hq : casc1 c j
      · rw [hq] at hc1
        have hjs := allN_succ hj2 (by rw [hq]; rfl)
        repeat' first
          | (refine codeW_cond rfl ?_; first | (refine condW_dec ?_ ?_ <;> intro _ <;> try (exfalso; omega)) | refine condW_not ?_ | (refine condW_bool ?_ ?_ <;> intro _ <;> try (exfalso; omega)))
          | (refine facW_intro ?_; intro _)
          | refine Or.inl ?_
          | ((conv => whnf); first | (refine condW_dec ?_ ?_ <;> intro _ <;> try (exfalso; omega)) | refine condW_not ?_ | (refine condW_bool ?_ ?_ <;> intro _ <;> try (exfalso; omega)) | (refine nbC_t (fun _ => ?_) ?_) | (refine nbC_f ?_ (fun _ => ?_)))
          | refine And.intro (by first | omega | (simp only [Int.toNat_natCast] at *; omega) | (simp only [Nat.reduceAdd, Int.cast_ofNat_Int, true_and, and_true]; omega) | kernel_rfl) ?_
          | refine RegW.run ?_
          | refine ⟨_, hm, ?_⟩
          | refine ⟨_, l2, ?_⟩
          | fail
        all_goals first
          | exact ⟨j + 1, ⟨by omega, hjs⟩, ⟨[], ⟨by kernel_rfl, by kernel_rfl, by kernel_rfl, by kernel_rfl, by kernel_rfl, by kernel_rfl, by kernel_rfl⟩, (by repeat' first | exact trivial | exact rfl | kernel_rfl | exact Dle.of_eq rfl | exact MLe.of_eq rfl | exact Dle.i (by omega) | exact Dle.i (by simp only [Int.toNat_natCast] at *; omega) | exact Dle.nil | exact Dle.rc Dle.nil | exact Option.some_ne_none _ | exact Or.inl rfl | exact Or.inr trivial | omega | (simp only [Int.toNat_natCast] at *; omega) | (intro _ _ _ _; exact Dle.of_eq rfl) | refine And.intro ?_ ?_)⟩, by first | omega | (dsimp only; omega)⟩
          | (exfalso; clear hno hy hall hc hm hcf hcl hf hlen l2 hj2 hjs hr; grind)
          | trace_state
      · rw [hq] at hc1
        have hr : r = true := by rw [hr]; unfold casc; rw [allN_no hjl (by rw [hq]; rfl)]; rfl
        repeat' first
          | (refine codeW_cond rfl ?_; first | (refine condW_dec ?_ ?_ <;> intro _ <;> try (exfalso; omega)) | refine condW_not ?_ | (refine condW_bool ?_ ?_ <;> intro _ <;> try (exfalso; omega)))
          | (refine facW_intro ?_; intro _)
          | refine Or.inl ?_
          | ((conv => whnf); first | (refine condW_dec ?_ ?_ <;> intro _ <;> try (exfalso; omega)) | refine condW_not ?_ | (refine condW_bool ?_ ?_ <;> intro _ <;> try (exfalso; omega)) | (refine nbC_t (fun _ => ?_) ?_) | (refine nbC_f ?_ (fun _ => ?_)))
          | refine And.intro (by first | omega | (simp only [Int.toNat_natCast] at *; omega) | (simp only [Nat.reduceAdd, Int.cast_ofNat_Int, true_and, and_true]; omega) | kernel_rfl) ?_
          | refine RegW.run ?_
          | refine ⟨_, hm, ?_⟩
          | refine ⟨_, l2, ?_⟩
          | fail
        all_goals first
          | exact Dle.bo hr.symm
          | (exfalso; clear hno hy hall hc hm hcf hcl hf hlen l2 hj2 hr; grind)
          | trace_state
    · obtain rfl : j = c.keys.length := by omega
      have hr : r = false := by rw [hr]; unfold casc; rw [hj2]; rfl
      repeat' first
        | (refine codeW_cond rfl ?_; first | (refine condW_dec ?_ ?_ <;> intro _ <;> try (exfalso; omega)) | refine condW_not ?_ | (refine condW_bool ?_ ?_ <;> intro _ <;> try (exfalso; omega)))
        | (refine facW_intro ?_; intro _)
        | refine Or.inl ?_
        | ((conv => whnf); first | (refine condW_dec ?_ ?_ <;> intro _ <;> try (exfalso; omega)) | refine condW_not ?_ | (refine condW_bool ?_ ?_ <;> intro _ <;> try (exfalso; omega)) | (refine nbC_t (fun _ => ?_) ?_) | (refine nbC_f ?_ (fun _ => ?_)))
        | refine And.intro (by first | omega | (simp only [Int.toNat_natCast] at *; omega) | (simp only [Nat.reduceAdd, Int.cast_ofNat_Int, true_and, and_true]; omega) | kernel_rfl) ?_
        | refine RegW.run ?_
        | fail
      all_goals first
        | exact Dle.bo hr.symm
        | trace_state
end
end ts
end Go.Proofs.YtdpbgpkjlbdbfaaGreatDoor
