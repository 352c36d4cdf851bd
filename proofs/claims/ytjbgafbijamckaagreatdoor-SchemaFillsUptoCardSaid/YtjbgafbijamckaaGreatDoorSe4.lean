/-
  The reference's put: a value put where parts lead.
-/
import Derived.Test.YtjbgafbijamckaaGreatDoorSe3
import Derived.Test.YtjbgafbijamckaaGreatDoorCr3
namespace Go.Proofs.YtjbgafbijamckaaGreatDoor
open Go.RowKit
set_option linter.unusedVariables false
set_option linter.unusedSimpArgs false
namespace se
open cr
theorem putK_no (v : Vu) (p : ByteArray) (y : Vu) (hh : hasK v p = false) (hc : v.b = false ∧ v.i = 0 ∧ v.text = ⟨#[]⟩) (hl : findK v p ≤ v.items.length) : putK v p y = .mk 6 v.b v.i v.text ((insL v.items (findK v p) .zero).set (findK v p) y) (insL v.keys (findK v p) p) := by
  rw [ins_set _ _ _ _ hl, hc.1, hc.2.1, hc.2.2]
  unfold putK insL
  rw [hh]
  rfl
theorem putK_yes (v : Vu) (p : ByteArray) (y : Vu) (hh : hasK v p = true) (hc : v.b = false ∧ v.i = 0 ∧ v.text = ⟨#[]⟩) (hl : findK v p < v.items.length) : putK v p y = .mk 6 v.b v.i v.text (v.items.set (findK v p) y) v.keys := by
  rw [hc.1, hc.2.1, hc.2.2]
  exact putK_yes0 v p y hh hl
theorem set_name {v x : Vu} {p : ByteArray} {T : List Stp} (hp : ¬ p = ⟨#[]⟩) (hf : faultE v = 0) (hk : v.kind = 0 ∨ v.kind = 6) {y : Vu} {e : Int} (hR : setS T (if hasK v p = true then v.items.getD (findK v p) .zero else .zero) x = (y, e)) :
    setS (⟨p, 0, false⟩ :: T) v x = if e = 0 then (putK v p y, 0) else (.zero, e) := by
  have hks : kindS ⟨p, 0, false⟩ = 6 := by unfold kindS; rw [if_neg hp]
  have ha : (asK v 6).kind = 6 ∧ (asK v 6).items = v.items ∧ (asK v 6).keys = v.keys := by
    unfold asK
    by_cases h0 : v.kind = 0
    · have := fault_nil v hf h0
      subst this
      rw [if_pos (show Vu.zero.kind = 0 from rfl)]
      exact ⟨rfl, rfl, rfl⟩
    · rw [if_neg h0]
      exact ⟨by omega, rfl, rfl⟩
  have hfk : findK (asK v 6) p = findK v p := by unfold findK; rw [ha.2.2]
  have hhk : hasK (asK v 6) p = hasK v p := by unfold hasK; rw [hfk, ha.2.2]
  have hfo : (followS (asK v 6) ⟨p, 0, false⟩).getD .zero = if hasK v p = true then v.items.getD (findK v p) .zero else .zero := by
    unfold followS
    rw [if_neg hp, ha.1, hhk, hfk, ha.2.1]
    by_cases h : hasK v p = true
    · rw [if_pos ⟨rfl, h⟩, if_pos h]; rfl
    · rw [if_neg (fun q => h q.2), if_neg h]; rfl
  have hpa : putAt (asK v 6) ⟨p, 0, false⟩ y = putK v p y := by
    unfold putAt putK
    rw [if_neg hp, hfk, hhk, ha.2.1, ha.2.2]
  unfold setS
  rw [hks, if_neg (fun h => h ha.1), if_neg (fun h => hp h.1), hfo, hR]
  by_cases he : e = 0
  · rw [if_pos he, if_neg (fun h => h he)]
    exact Prod.ext hpa rfl
  · rw [if_neg he, if_pos he]
theorem set_idx {v x : Vu} {n : Nat} {T : List Stp} (hf : faultE v = 0) (hk : v.kind = 0 ∨ v.kind = 5) {y : Vu} {e : Int} (hR : setS T (v.items.getD n .zero) x = (y, e)) :
    setS (⟨⟨#[]⟩, n, false⟩ :: T) v x = if v.items.length < n then (.zero, 2) else if e = 0 then (.mk 5 v.b v.i v.text (if n = v.items.length then v.items ++ [y] else v.items.set n y) v.keys, 0) else (.zero, e) := by
  have hks : kindS ⟨⟨#[]⟩, n, false⟩ = 5 := rfl
  obtain ⟨c1, c2, c3, c4⟩ := clean v hf (by omega)
  have c4 := c4 (by omega)
  have ha : (asK v 5).kind = 5 ∧ (asK v 5).items = v.items := by
    unfold asK
    by_cases h0 : v.kind = 0
    · have := fault_nil v hf h0
      subst this
      rw [if_pos (show Vu.zero.kind = 0 from rfl)]
      exact ⟨rfl, rfl⟩
    · rw [if_neg h0]
      exact ⟨by omega, rfl⟩
  have hfo : (followS (asK v 5) ⟨⟨#[]⟩, n, false⟩).getD .zero = v.items.getD n .zero := by
    unfold followS
    rw [if_pos rfl, ha.1, ha.2]
    by_cases h : n < v.items.length
    · rw [if_pos ⟨rfl, by show (n : Int) < _; omega⟩]; rfl
    · rw [if_neg (fun q => h (by have : (n : Int) < _ := q.2; omega)), List.getD_eq_getElem?_getD, List.getElem?_eq_none (by omega)]
  unfold setS
  rw [hks, if_neg (fun h => h ha.1), ha.2]
  by_cases hr : v.items.length < n
  · rw [if_pos ⟨rfl, by show _ < (n : Int); omega⟩, if_pos hr]
  · rw [if_neg (fun h => hr (by have : _ < (n : Int) := h.2; omega)), if_neg hr, hfo, hR]
    by_cases he : e = 0
    · rw [if_pos he, if_neg (fun h => h he)]
      refine Prod.ext ?_ rfl
      show putAt (asK v 5) ⟨⟨#[]⟩, n, false⟩ y = _
      unfold putAt
      rw [if_pos rfl, ha.2, c1, c2, c3, c4]
      by_cases hq : n = v.items.length
      · rw [if_pos (show (n : Int) = _ by omega), if_pos hq]
      · rw [if_neg (show ¬ (n : Int) = _ by omega), if_neg hq]
        rfl
    · rw [if_neg he, if_pos he]
theorem set_no {v x : Vu} {s : Stp} {T : List Stp} (h0 : v.kind ≠ 0) (hk : v.kind ≠ kindS s) : setS (s :: T) v x = (.zero, 10) := by
  unfold setS asK
  rw [if_neg h0, if_pos hk]
theorem wt_mem : ∀ (l : List Vu) (k : Nat), k < l.length → (l.getD k .zero).wt ≤ Vu.wtL l
  | [], k, h => absurd h (Nat.not_lt_zero _)
  | x :: r, 0, _ => by simp only [List.getD_cons_zero, Vu.wtL]; omega
  | x :: r, k + 1, h => by
    have := wt_mem r k (by simpa using h)
    simp only [List.getD_cons_succ, Vu.wtL]
    omega
theorem wt_item (v : Vu) (k : Nat) (hk : k < v.items.length) : (v.items.getD k .zero).wt ≤ v.wt := by
  have h1 := wt_mem v.items k hk
  have h2 := wtL_le_wt v
  omega
section
variable (E : Env)
set_option maxRecDepth 100000
set_option maxHeartbeats 8000000 in
/-- A step by a name. -/
theorem put_name (p : ByteArray) (t : List ByteArray) (v x : Vu) (hp0 : partOk false p = true) (hk : keyOkB p = true) (h97 : 97 ≤ (bAt p 0).toNat) (hf : faultE v = 0) (hw : v.wt ≤ 100000000000)
    (ih0 : ∀ v : Vu, faultE v = 0 → v.wt ≤ 100000000000 → Sp (cx Tryz.prog mixed tyT_ok E) 19 [encV v, encStrs t, encV x] (.tup [encV (setS (t.map stepOf) v x).1, i64 (setS (t.map stepOf) v x).2])) :
    Sp (cx Tryz.prog mixed tyT_ok E) 19 [encV v, encStrs (p :: t), encV x] (.tup [encV (setS ((p :: t).map stepOf) v x).1, i64 (setS ((p :: t).map stepOf) v x).2]) := by
  have hkw := keys_le_wt v
  have hiw : v.items.length ≤ v.wt := by have := wtL_le_wt v; have := len_le_wtL v.items; omega
  have k1 := cloneV_l E 27 v.items (by omega)
  have k2 := cloneK_l E 30 v.keys (by omega)
  have hl0 : (p :: t).length = t.length + 1 := rfl
  have hsl : ∀ (n : Nat) (g : Nat → Nat → DD), n = t.length → (∀ i j, g i j = dS ((p :: t).getD (i + 1) ⟨#[]⟩)) → Dle (cx Tryz.prog mixed tyT_ok E) (.sl 1 16 n g) (encStrs t) := fun n g hn hg => Dle.sl (X := (cx Tryz.prog mixed tyT_ok E)) hn (fun i j _ _ => Dle.of_eq (hg i j))
  have hn2 : ((p :: t).length : Int).toNat - 1 = t.length := by
    show ((t.length + 1 : Nat) : Int).toNat - 1 = t.length
    omega
  obtain ⟨hsz, _⟩ := part_cases hp0
  have hsz0 : 0 < ((p :: t).getD (Int.toNat 0) ⟨#[]⟩).size := hsz
  have hpe : ¬ p = ⟨#[]⟩ := fun e => by rw [e] at hsz; exact absurd hsz (by decide)
  have h970 : 97 ≤ (bAt ((p :: t).getD (Int.toNat 0) ⟨#[]⟩) (Int.toNat 0)).toNat := h97
  have e : stepOf p = ⟨p, 0, false⟩ := by unfold stepOf; rw [if_pos hk]
  rw [List.map_cons, e]
  by_cases hkd : v.kind = 0 ∨ v.kind = 6
  · obtain ⟨q1, q2, q3, _⟩ := clean v hf (by omega)
    have hsrt := (fault_keys hf).1
    have hki : v.keys.length = v.items.length := by
      by_cases h0 : v.kind = 0
      · rw [fault_nil v hf h0]; rfl
      · exact (fault_keys hf).2 (by omega)
    have hct := ins.contI_sp E 30 v.keys v.keys.length v.keys.length p (Nat.le_refl _) (by omega)
    rw [has_in hsrt] at hct
    cases hh : hasK v p with
    | true =>
      rw [hh] at hct
      have hm := has_lt hh
      have h6 : v.kind = 6 := by
        refine hkd.resolve_left fun h0 => ?_
        rw [fault_nil v hf h0] at hm
        exact absurd hm (Nat.not_lt_zero _)
      have hpk := fun y => putK_yes v p y hh ⟨q1, q2, q3⟩ (by omega)
      have hix : idxS v.keys p 0 = (findK v p : Nat) := by
        rcases rs.idx_find hsrt p with ⟨_, h3⟩ | ⟨h3, _⟩
        · rw [hh] at h3; cases h3
        · exact h3
      obtain ⟨y, e, hR⟩ : ∃ y e, setS (t.map stepOf) (if hasK v p = true then v.items.getD (findK v p) .zero else .zero) x = (y, e) := ⟨_, _, rfl⟩
      rw [set_name hpe hf hkd hR]
      rw [hh, if_pos rfl] at hR
      have ih := ih0 (v.items.getD (findK v p) .zero) (fault_mem hf (by omega)) (by have := wt_item v (findK v p) (by omega); omega)
      rw [hR] at ih
      clear hR
      rw [hpk y]
      clear hpk
      generalize findK v p = m at *
      have s2 := ins.stepL_sp E 27 30 (by decide) (by decide) (by decide) v (rowV v.items) p hp0 (by omega)
      have r2 : stepR v p = m := by unfold stepR; rw [if_pos h97]; exact (if_pos h6).trans hix
      rw [r2] at s2
      have hld : Dle (cx Tryz.prog mixed tyT_ok E) (encV (v.items.getD (0 + (m : Int).toNat) .zero)) (encV (v.items.getD m .zero)) := Dle.of_eq (by rw [show 0 + (m : Int).toNat = m by omega])
      by_cases he : e = 0
      · subst he
        rw [if_pos rfl]
        refine Sp.body Tryz.func19 (by kernel_rfl) rfl (by kernel_rfl) (by kernel_rfl) (by kernel_rfl) ?_
        repeat' first
          | refine Or.inr ⟨_, _, _, k1, by kernel_rfl, (by repeat' first | exact trivial | exact rfl | kernel_rfl | exact Dle.of_eq rfl | exact MLe.of_eq rfl | exact Dle.i (by omega) | exact Dle.i (by simp only [Int.toNat_natCast] at *; omega) | exact Dle.nil | exact Dle.rc Dle.nil | exact Option.some_ne_none _ | exact Or.inl rfl | exact Or.inr trivial | omega | (simp only [Int.toNat_natCast] at *; omega) | (intro _ _ _ _; exact Dle.of_eq rfl) | refine And.intro ?_ ?_), ?_⟩
          | refine Or.inr ⟨_, _, _, k2, by kernel_rfl, (by repeat' first | exact trivial | exact rfl | kernel_rfl | exact Dle.of_eq rfl | exact MLe.of_eq rfl | exact Dle.i (by omega) | exact Dle.i (by simp only [Int.toNat_natCast] at *; omega) | exact Dle.nil | exact Dle.rc Dle.nil | exact Option.some_ne_none _ | exact Or.inl rfl | exact Or.inr trivial | omega | (simp only [Int.toNat_natCast] at *; omega) | (intro _ _ _ _; exact Dle.of_eq rfl) | refine And.intro ?_ ?_), ?_⟩
          | refine Or.inr ⟨_, _, _, hct, by kernel_rfl, (by repeat' first | exact trivial | exact rfl | kernel_rfl | exact Dle.of_eq rfl | exact MLe.of_eq rfl | exact Dle.i (by omega) | exact Dle.i (by simp only [Int.toNat_natCast] at *; omega) | exact Dle.nil | exact Dle.rc Dle.nil | exact Option.some_ne_none _ | exact Or.inl rfl | exact Or.inr trivial | omega | (simp only [Int.toNat_natCast] at *; omega) | (intro _ _ _ _; exact Dle.of_eq rfl) | refine And.intro ?_ ?_), ?_⟩
          | refine Or.inr ⟨_, _, _, s2, by kernel_rfl, (by repeat' first | exact trivial | exact rfl | kernel_rfl | exact Dle.of_eq rfl | exact MLe.of_eq rfl | exact Dle.i (by omega) | exact Dle.i (by simp only [Int.toNat_natCast] at *; omega) | exact Dle.nil | exact Dle.rc Dle.nil | exact Option.some_ne_none _ | exact Or.inl rfl | exact Or.inr trivial | omega | (simp only [Int.toNat_natCast] at *; omega) | (intro _ _ _ _; exact Dle.of_eq rfl) | refine And.intro ?_ ?_), ?_⟩
          | (refine codeW_cond rfl ?_; first | (refine condW_dec ?_ ?_ <;> intro _ <;> try (exfalso; omega)) | refine condW_not ?_ | (refine condW_bool ?_ ?_ <;> intro _ <;> try (exfalso; omega)))
          | (refine facW_intro ?_; intro _)
          | refine Or.inl ?_
          | ((conv => whnf); first | (refine condW_dec ?_ ?_ <;> intro _ <;> try (exfalso; omega)) | refine condW_not ?_ | (refine condW_bool ?_ ?_ <;> intro _ <;> try (exfalso; omega)) | (refine nbC_t (fun _ => ?_) ?_) | (refine nbC_f ?_ (fun _ => ?_)))
          | refine And.intro (by first | omega | (simp only [Int.toNat_natCast] at *; omega) | (simp only [Nat.reduceAdd, Int.cast_ofNat_Int, true_and, and_true]; omega)  | (simp only [cx, view, Nat.reduceAdd, Int.toNat_natCast]; omega) | kernel_rfl) ?_
          | refine RegW.run ?_
          | refine ⟨_, ih.args ⟨hld, hsl _ _ hn2 (fun _ _ => rfl), Dle.refl _ _, trivial⟩, ?_⟩
          | fail
        all_goals first
          | (exfalso; omega)
          | (refine Dle.tup (X := (cx Tryz.prog mixed tyT_ok E)) ⟨Dle.agg (X := (cx Tryz.prog mixed tyT_ok E)) ⟨Dle.i h6, Dle.refl _ _, Dle.refl _ _, Dle.refl _ _, row_set E v.items y m _ _ (by omega) rfl (fun i j hi hj => ?_), Dle.refl _ _, trivial⟩, Dle.refl _ _, trivial⟩
             show rowSet (rowV v.items) (0 + (m : Int).toNat) 0 [i64 y.kind, dB y.b, i64 y.i, dS y.text, .rc (.vals y.items), encStrs y.keys] i j = _
             rw [set_cell _ _ _ _ _ hj, show 0 + (m : Int).toNat = m by omega])
          | trace_state
      · rw [if_neg he]
        refine Sp.body Tryz.func19 (by kernel_rfl) rfl (by kernel_rfl) (by kernel_rfl) (by kernel_rfl) ?_
        repeat' first
          | refine Or.inr ⟨_, _, _, k1, by kernel_rfl, (by repeat' first | exact trivial | exact rfl | kernel_rfl | exact Dle.of_eq rfl | exact MLe.of_eq rfl | exact Dle.i (by omega) | exact Dle.i (by simp only [Int.toNat_natCast] at *; omega) | exact Dle.nil | exact Dle.rc Dle.nil | exact Option.some_ne_none _ | exact Or.inl rfl | exact Or.inr trivial | omega | (simp only [Int.toNat_natCast] at *; omega) | (intro _ _ _ _; exact Dle.of_eq rfl) | refine And.intro ?_ ?_), ?_⟩
          | refine Or.inr ⟨_, _, _, k2, by kernel_rfl, (by repeat' first | exact trivial | exact rfl | kernel_rfl | exact Dle.of_eq rfl | exact MLe.of_eq rfl | exact Dle.i (by omega) | exact Dle.i (by simp only [Int.toNat_natCast] at *; omega) | exact Dle.nil | exact Dle.rc Dle.nil | exact Option.some_ne_none _ | exact Or.inl rfl | exact Or.inr trivial | omega | (simp only [Int.toNat_natCast] at *; omega) | (intro _ _ _ _; exact Dle.of_eq rfl) | refine And.intro ?_ ?_), ?_⟩
          | refine Or.inr ⟨_, _, _, hct, by kernel_rfl, (by repeat' first | exact trivial | exact rfl | kernel_rfl | exact Dle.of_eq rfl | exact MLe.of_eq rfl | exact Dle.i (by omega) | exact Dle.i (by simp only [Int.toNat_natCast] at *; omega) | exact Dle.nil | exact Dle.rc Dle.nil | exact Option.some_ne_none _ | exact Or.inl rfl | exact Or.inr trivial | omega | (simp only [Int.toNat_natCast] at *; omega) | (intro _ _ _ _; exact Dle.of_eq rfl) | refine And.intro ?_ ?_), ?_⟩
          | refine Or.inr ⟨_, _, _, s2, by kernel_rfl, (by repeat' first | exact trivial | exact rfl | kernel_rfl | exact Dle.of_eq rfl | exact MLe.of_eq rfl | exact Dle.i (by omega) | exact Dle.i (by simp only [Int.toNat_natCast] at *; omega) | exact Dle.nil | exact Dle.rc Dle.nil | exact Option.some_ne_none _ | exact Or.inl rfl | exact Or.inr trivial | omega | (simp only [Int.toNat_natCast] at *; omega) | (intro _ _ _ _; exact Dle.of_eq rfl) | refine And.intro ?_ ?_), ?_⟩
          | (refine codeW_cond rfl ?_; first | (refine condW_dec ?_ ?_ <;> intro _ <;> try (exfalso; omega)) | refine condW_not ?_ | (refine condW_bool ?_ ?_ <;> intro _ <;> try (exfalso; omega)))
          | (refine facW_intro ?_; intro _)
          | refine Or.inl ?_
          | ((conv => whnf); first | (refine condW_dec ?_ ?_ <;> intro _ <;> try (exfalso; omega)) | refine condW_not ?_ | (refine condW_bool ?_ ?_ <;> intro _ <;> try (exfalso; omega)) | (refine nbC_t (fun _ => ?_) ?_) | (refine nbC_f ?_ (fun _ => ?_)))
          | refine And.intro (by first | omega | (simp only [Int.toNat_natCast] at *; omega) | (simp only [Nat.reduceAdd, Int.cast_ofNat_Int, true_and, and_true]; omega)  | (simp only [cx, view, Nat.reduceAdd, Int.toNat_natCast]; omega) | kernel_rfl) ?_
          | refine RegW.run ?_
          | refine ⟨_, ih.args ⟨hld, hsl _ _ hn2 (fun _ _ => rfl), Dle.refl _ _, trivial⟩, ?_⟩
          | fail
        all_goals first
          | (exfalso; omega)
          | exact Dle.tup (X := (cx Tryz.prog mixed tyT_ok E)) ⟨zeroC E, Dle.refl _ _, trivial⟩
          | trace_state
    | false =>
      rw [hh] at hct
      have hm := find_le v p
      have hb := ins.bs_sp E 30 v.keys p v.keys.length (by omega)
      have hpk := fun y => putK_no v p y hh ⟨q1, q2, q3⟩ (by omega)
      have hix := idx_ins hsrt hh
      obtain ⟨y, e, hR⟩ : ∃ y e, setS (t.map stepOf) (if hasK v p = true then v.items.getD (findK v p) .zero else .zero) x = (y, e) := ⟨_, _, rfl⟩
      rw [set_name hpe hf hkd hR]
      rw [hh, if_neg (by decide)] at hR
      have ih := ih0 .zero (fault_empty 0 (.inl rfl)) (by decide)
      rw [hR] at ih
      clear hR
      rw [hpk y]
      have e5 : findK v p = bsr v.keys p 0 v.keys.length := rfl
      rw [← e5] at hb
      clear e5 hpk
      generalize findK v p = m at *
      have i1 := insK_l E 30 60 61 (by decide) (by decide) (by decide) (by decide) (by decide) (by decide) v.keys p m hm (by omega)
      have i2 := insZ_l E 27 67 68 (by decide) (by decide) (by decide) (by decide) (by decide) (by decide) v.items m (by omega) (by omega)
      have l1 := insL_len v.keys m p hm
      have l2 := insL_len v.items m .zero (by omega)
      have s1 := ins.stepL_sp E 68 61 (by decide) (by decide) (by decide) (.mk 6 v.b v.i v.text (insL v.items m .zero) (insL v.keys m p)) (rowV (insL v.items m .zero)) p hp0 (by show (insL v.keys m p).length ≤ _; omega)
      have s2 := ins.stepL_sp E 68 61 (by decide) (by decide) (by decide) (.mk v.kind v.b v.i v.text (insL v.items m .zero) (insL v.keys m p)) (rowV (insL v.items m .zero)) p hp0 (by show (insL v.keys m p).length ≤ _; omega)
      have l3 : (Vu.mk 6 v.b v.i v.text (insL v.items m .zero) (insL v.keys m p)).items.length = v.items.length + 1 := l2
      have l4 : (Vu.mk v.kind v.b v.i v.text (insL v.items m .zero) (insL v.keys m p)).items.length = v.items.length + 1 := l2
      have l5 : (Vu.mk 6 v.b v.i v.text (insL v.items m .zero) (insL v.keys m p)).keys.length = v.keys.length + 1 := l1
      have l6 : (Vu.mk v.kind v.b v.i v.text (insL v.items m .zero) (insL v.keys m p)).keys.length = v.keys.length + 1 := l1
      have r1 : stepR (.mk 6 v.b v.i v.text (insL v.items m .zero) (insL v.keys m p)) p = m := by unfold stepR; rw [if_pos h97]; exact (if_pos rfl).trans hix
      rw [r1] at s1
      have hz : (insL v.items m .zero).getD m .zero = .zero := by rw [insL_at _ _ _ _ _ (by omega), if_neg (Nat.lt_irrefl _), if_pos rfl]
      have hld : Dle (cx Tryz.prog mixed tyT_ok E) (encV ((insL v.items m .zero).getD (0 + (m : Int).toNat) .zero)) (encV .zero) := Dle.of_eq (by rw [show 0 + (m : Int).toNat = m by omega, hz])
      by_cases h0 : v.kind = 0
      · by_cases he : e = 0
        · subst he
          rw [if_pos rfl]
          refine Sp.body Tryz.func19 (by kernel_rfl) rfl (by kernel_rfl) (by kernel_rfl) (by kernel_rfl) ?_
          repeat' first
            | refine Or.inr ⟨_, _, _, k1, by kernel_rfl, (by repeat' first | exact trivial | exact rfl | kernel_rfl | exact Dle.of_eq rfl | exact MLe.of_eq rfl | exact Dle.i (by omega) | exact Dle.i (by simp only [Int.toNat_natCast] at *; omega) | exact Dle.nil | exact Dle.rc Dle.nil | exact Option.some_ne_none _ | exact Or.inl rfl | exact Or.inr trivial | omega | (simp only [Int.toNat_natCast] at *; omega) | (intro _ _ _ _; exact Dle.of_eq rfl) | refine And.intro ?_ ?_), ?_⟩
            | refine Or.inr ⟨_, _, _, k2, by kernel_rfl, (by repeat' first | exact trivial | exact rfl | kernel_rfl | exact Dle.of_eq rfl | exact MLe.of_eq rfl | exact Dle.i (by omega) | exact Dle.i (by simp only [Int.toNat_natCast] at *; omega) | exact Dle.nil | exact Dle.rc Dle.nil | exact Option.some_ne_none _ | exact Or.inl rfl | exact Or.inr trivial | omega | (simp only [Int.toNat_natCast] at *; omega) | (intro _ _ _ _; exact Dle.of_eq rfl) | refine And.intro ?_ ?_), ?_⟩
            | refine Or.inr ⟨_, _, _, hct, by kernel_rfl, (by repeat' first | exact trivial | exact rfl | kernel_rfl | exact Dle.of_eq rfl | exact MLe.of_eq rfl | exact Dle.i (by omega) | exact Dle.i (by simp only [Int.toNat_natCast] at *; omega) | exact Dle.nil | exact Dle.rc Dle.nil | exact Option.some_ne_none _ | exact Or.inl rfl | exact Or.inr trivial | omega | (simp only [Int.toNat_natCast] at *; omega) | (intro _ _ _ _; exact Dle.of_eq rfl) | refine And.intro ?_ ?_), ?_⟩
            | refine Or.inr ⟨_, _, _, hb, by kernel_rfl, (by repeat' first | exact trivial | exact rfl | kernel_rfl | exact Dle.of_eq rfl | exact MLe.of_eq rfl | exact Dle.i (by omega) | exact Dle.i (by simp only [Int.toNat_natCast] at *; omega) | exact Dle.nil | exact Dle.rc Dle.nil | exact Option.some_ne_none _ | exact Or.inl rfl | exact Or.inr trivial | omega | (simp only [Int.toNat_natCast] at *; omega) | (intro _ _ _ _; exact Dle.of_eq rfl) | refine And.intro ?_ ?_), ?_⟩
            | refine Or.inr ⟨_, _, _, i1, by kernel_rfl, (by repeat' first | exact trivial | exact rfl | kernel_rfl | exact Dle.of_eq rfl | exact MLe.of_eq rfl | exact Dle.i (by omega) | exact Dle.i (by simp only [Int.toNat_natCast] at *; omega) | exact Dle.nil | exact Dle.rc Dle.nil | exact Option.some_ne_none _ | exact Or.inl rfl | exact Or.inr trivial | omega | (simp only [Int.toNat_natCast] at *; omega) | (intro _ _ _ _; exact Dle.of_eq rfl) | refine And.intro ?_ ?_), ?_⟩
            | refine Or.inr ⟨_, _, _, i2, by kernel_rfl, (by repeat' first | exact trivial | exact rfl | kernel_rfl | exact Dle.of_eq rfl | exact MLe.of_eq rfl | exact Dle.i (by omega) | exact Dle.i (by simp only [Int.toNat_natCast] at *; omega) | exact Dle.nil | exact Dle.rc Dle.nil | exact Option.some_ne_none _ | exact Or.inl rfl | exact Or.inr trivial | omega | (simp only [Int.toNat_natCast] at *; omega) | (intro _ _ _ _; exact Dle.of_eq rfl) | refine And.intro ?_ ?_), ?_⟩
            | refine Or.inr ⟨_, _, _, s1, by kernel_rfl, (by repeat' first | exact trivial | exact rfl | kernel_rfl | exact Dle.of_eq rfl | exact MLe.of_eq rfl | exact Dle.i (by omega) | exact Dle.i (by simp only [Int.toNat_natCast] at *; omega) | exact Dle.nil | exact Dle.rc Dle.nil | exact Option.some_ne_none _ | exact Or.inl rfl | exact Or.inr trivial | omega | (simp only [Int.toNat_natCast] at *; omega) | (intro _ _ _ _; exact Dle.of_eq rfl) | refine And.intro ?_ ?_), ?_⟩
            | (refine codeW_cond rfl ?_; first | (refine condW_dec ?_ ?_ <;> intro _ <;> try (exfalso; omega)) | refine condW_not ?_ | (refine condW_bool ?_ ?_ <;> intro _ <;> try (exfalso; omega)))
            | (refine facW_intro ?_; intro _)
            | refine Or.inl ?_
            | ((conv => whnf); first | (refine condW_dec ?_ ?_ <;> intro _ <;> try (exfalso; omega)) | refine condW_not ?_ | (refine condW_bool ?_ ?_ <;> intro _ <;> try (exfalso; omega)) | (refine nbC_t (fun _ => ?_) ?_) | (refine nbC_f ?_ (fun _ => ?_)))
            | refine And.intro (by first | omega | (simp only [Int.toNat_natCast] at *; omega) | (simp only [Nat.reduceAdd, Int.cast_ofNat_Int, true_and, and_true]; omega)  | (simp only [cx, view, Nat.reduceAdd, Int.toNat_natCast]; omega) | kernel_rfl) ?_
            | refine RegW.run ?_
            | refine ⟨_, ih.args ⟨hld, hsl _ _ hn2 (fun _ _ => rfl), Dle.refl _ _, trivial⟩, ?_⟩
            | fail
          all_goals first
            | (exfalso; omega)
            | (refine Dle.tup (X := (cx Tryz.prog mixed tyT_ok E)) ⟨Dle.agg (X := (cx Tryz.prog mixed tyT_ok E)) ⟨Dle.refl _ _, Dle.refl _ _, Dle.refl _ _, Dle.refl _ _, row_set E (insL v.items m .zero) y m _ _ (by omega) rfl (fun i j hi hj => ?_), Dle.refl _ _, trivial⟩, Dle.refl _ _, trivial⟩
               show rowSet (rowV (insL v.items m .zero)) (0 + (m : Int).toNat) 0 [i64 y.kind, dB y.b, i64 y.i, dS y.text, .rc (.vals y.items), encStrs y.keys] i j = _
               rw [set_cell _ _ _ _ _ hj, show 0 + (m : Int).toNat = m by omega])
            | trace_state
        · rw [if_neg he]
          refine Sp.body Tryz.func19 (by kernel_rfl) rfl (by kernel_rfl) (by kernel_rfl) (by kernel_rfl) ?_
          repeat' first
            | refine Or.inr ⟨_, _, _, k1, by kernel_rfl, (by repeat' first | exact trivial | exact rfl | kernel_rfl | exact Dle.of_eq rfl | exact MLe.of_eq rfl | exact Dle.i (by omega) | exact Dle.i (by simp only [Int.toNat_natCast] at *; omega) | exact Dle.nil | exact Dle.rc Dle.nil | exact Option.some_ne_none _ | exact Or.inl rfl | exact Or.inr trivial | omega | (simp only [Int.toNat_natCast] at *; omega) | (intro _ _ _ _; exact Dle.of_eq rfl) | refine And.intro ?_ ?_), ?_⟩
            | refine Or.inr ⟨_, _, _, k2, by kernel_rfl, (by repeat' first | exact trivial | exact rfl | kernel_rfl | exact Dle.of_eq rfl | exact MLe.of_eq rfl | exact Dle.i (by omega) | exact Dle.i (by simp only [Int.toNat_natCast] at *; omega) | exact Dle.nil | exact Dle.rc Dle.nil | exact Option.some_ne_none _ | exact Or.inl rfl | exact Or.inr trivial | omega | (simp only [Int.toNat_natCast] at *; omega) | (intro _ _ _ _; exact Dle.of_eq rfl) | refine And.intro ?_ ?_), ?_⟩
            | refine Or.inr ⟨_, _, _, hct, by kernel_rfl, (by repeat' first | exact trivial | exact rfl | kernel_rfl | exact Dle.of_eq rfl | exact MLe.of_eq rfl | exact Dle.i (by omega) | exact Dle.i (by simp only [Int.toNat_natCast] at *; omega) | exact Dle.nil | exact Dle.rc Dle.nil | exact Option.some_ne_none _ | exact Or.inl rfl | exact Or.inr trivial | omega | (simp only [Int.toNat_natCast] at *; omega) | (intro _ _ _ _; exact Dle.of_eq rfl) | refine And.intro ?_ ?_), ?_⟩
            | refine Or.inr ⟨_, _, _, hb, by kernel_rfl, (by repeat' first | exact trivial | exact rfl | kernel_rfl | exact Dle.of_eq rfl | exact MLe.of_eq rfl | exact Dle.i (by omega) | exact Dle.i (by simp only [Int.toNat_natCast] at *; omega) | exact Dle.nil | exact Dle.rc Dle.nil | exact Option.some_ne_none _ | exact Or.inl rfl | exact Or.inr trivial | omega | (simp only [Int.toNat_natCast] at *; omega) | (intro _ _ _ _; exact Dle.of_eq rfl) | refine And.intro ?_ ?_), ?_⟩
            | refine Or.inr ⟨_, _, _, i1, by kernel_rfl, (by repeat' first | exact trivial | exact rfl | kernel_rfl | exact Dle.of_eq rfl | exact MLe.of_eq rfl | exact Dle.i (by omega) | exact Dle.i (by simp only [Int.toNat_natCast] at *; omega) | exact Dle.nil | exact Dle.rc Dle.nil | exact Option.some_ne_none _ | exact Or.inl rfl | exact Or.inr trivial | omega | (simp only [Int.toNat_natCast] at *; omega) | (intro _ _ _ _; exact Dle.of_eq rfl) | refine And.intro ?_ ?_), ?_⟩
            | refine Or.inr ⟨_, _, _, i2, by kernel_rfl, (by repeat' first | exact trivial | exact rfl | kernel_rfl | exact Dle.of_eq rfl | exact MLe.of_eq rfl | exact Dle.i (by omega) | exact Dle.i (by simp only [Int.toNat_natCast] at *; omega) | exact Dle.nil | exact Dle.rc Dle.nil | exact Option.some_ne_none _ | exact Or.inl rfl | exact Or.inr trivial | omega | (simp only [Int.toNat_natCast] at *; omega) | (intro _ _ _ _; exact Dle.of_eq rfl) | refine And.intro ?_ ?_), ?_⟩
            | refine Or.inr ⟨_, _, _, s1, by kernel_rfl, (by repeat' first | exact trivial | exact rfl | kernel_rfl | exact Dle.of_eq rfl | exact MLe.of_eq rfl | exact Dle.i (by omega) | exact Dle.i (by simp only [Int.toNat_natCast] at *; omega) | exact Dle.nil | exact Dle.rc Dle.nil | exact Option.some_ne_none _ | exact Or.inl rfl | exact Or.inr trivial | omega | (simp only [Int.toNat_natCast] at *; omega) | (intro _ _ _ _; exact Dle.of_eq rfl) | refine And.intro ?_ ?_), ?_⟩
            | (refine codeW_cond rfl ?_; first | (refine condW_dec ?_ ?_ <;> intro _ <;> try (exfalso; omega)) | refine condW_not ?_ | (refine condW_bool ?_ ?_ <;> intro _ <;> try (exfalso; omega)))
            | (refine facW_intro ?_; intro _)
            | refine Or.inl ?_
            | ((conv => whnf); first | (refine condW_dec ?_ ?_ <;> intro _ <;> try (exfalso; omega)) | refine condW_not ?_ | (refine condW_bool ?_ ?_ <;> intro _ <;> try (exfalso; omega)) | (refine nbC_t (fun _ => ?_) ?_) | (refine nbC_f ?_ (fun _ => ?_)))
            | refine And.intro (by first | omega | (simp only [Int.toNat_natCast] at *; omega) | (simp only [Nat.reduceAdd, Int.cast_ofNat_Int, true_and, and_true]; omega)  | (simp only [cx, view, Nat.reduceAdd, Int.toNat_natCast]; omega) | kernel_rfl) ?_
            | refine RegW.run ?_
            | refine ⟨_, ih.args ⟨hld, hsl _ _ hn2 (fun _ _ => rfl), Dle.refl _ _, trivial⟩, ?_⟩
            | fail
          all_goals first
            | (exfalso; omega)
            | exact Dle.tup (X := (cx Tryz.prog mixed tyT_ok E)) ⟨zeroC E, Dle.refl _ _, trivial⟩
            | trace_state
      · have h6 : v.kind = 6 := by omega
        have r2 : stepR (.mk v.kind v.b v.i v.text (insL v.items m .zero) (insL v.keys m p)) p = m := by unfold stepR; rw [if_pos h97]; exact (if_pos h6).trans hix
        rw [r2] at s2
        by_cases he : e = 0
        · subst he
          rw [if_pos rfl]
          refine Sp.body Tryz.func19 (by kernel_rfl) rfl (by kernel_rfl) (by kernel_rfl) (by kernel_rfl) ?_
          repeat' first
            | refine Or.inr ⟨_, _, _, k1, by kernel_rfl, (by repeat' first | exact trivial | exact rfl | kernel_rfl | exact Dle.of_eq rfl | exact MLe.of_eq rfl | exact Dle.i (by omega) | exact Dle.i (by simp only [Int.toNat_natCast] at *; omega) | exact Dle.nil | exact Dle.rc Dle.nil | exact Option.some_ne_none _ | exact Or.inl rfl | exact Or.inr trivial | omega | (simp only [Int.toNat_natCast] at *; omega) | (intro _ _ _ _; exact Dle.of_eq rfl) | refine And.intro ?_ ?_), ?_⟩
            | refine Or.inr ⟨_, _, _, k2, by kernel_rfl, (by repeat' first | exact trivial | exact rfl | kernel_rfl | exact Dle.of_eq rfl | exact MLe.of_eq rfl | exact Dle.i (by omega) | exact Dle.i (by simp only [Int.toNat_natCast] at *; omega) | exact Dle.nil | exact Dle.rc Dle.nil | exact Option.some_ne_none _ | exact Or.inl rfl | exact Or.inr trivial | omega | (simp only [Int.toNat_natCast] at *; omega) | (intro _ _ _ _; exact Dle.of_eq rfl) | refine And.intro ?_ ?_), ?_⟩
            | refine Or.inr ⟨_, _, _, hct, by kernel_rfl, (by repeat' first | exact trivial | exact rfl | kernel_rfl | exact Dle.of_eq rfl | exact MLe.of_eq rfl | exact Dle.i (by omega) | exact Dle.i (by simp only [Int.toNat_natCast] at *; omega) | exact Dle.nil | exact Dle.rc Dle.nil | exact Option.some_ne_none _ | exact Or.inl rfl | exact Or.inr trivial | omega | (simp only [Int.toNat_natCast] at *; omega) | (intro _ _ _ _; exact Dle.of_eq rfl) | refine And.intro ?_ ?_), ?_⟩
            | refine Or.inr ⟨_, _, _, hb, by kernel_rfl, (by repeat' first | exact trivial | exact rfl | kernel_rfl | exact Dle.of_eq rfl | exact MLe.of_eq rfl | exact Dle.i (by omega) | exact Dle.i (by simp only [Int.toNat_natCast] at *; omega) | exact Dle.nil | exact Dle.rc Dle.nil | exact Option.some_ne_none _ | exact Or.inl rfl | exact Or.inr trivial | omega | (simp only [Int.toNat_natCast] at *; omega) | (intro _ _ _ _; exact Dle.of_eq rfl) | refine And.intro ?_ ?_), ?_⟩
            | refine Or.inr ⟨_, _, _, i1, by kernel_rfl, (by repeat' first | exact trivial | exact rfl | kernel_rfl | exact Dle.of_eq rfl | exact MLe.of_eq rfl | exact Dle.i (by omega) | exact Dle.i (by simp only [Int.toNat_natCast] at *; omega) | exact Dle.nil | exact Dle.rc Dle.nil | exact Option.some_ne_none _ | exact Or.inl rfl | exact Or.inr trivial | omega | (simp only [Int.toNat_natCast] at *; omega) | (intro _ _ _ _; exact Dle.of_eq rfl) | refine And.intro ?_ ?_), ?_⟩
            | refine Or.inr ⟨_, _, _, i2, by kernel_rfl, (by repeat' first | exact trivial | exact rfl | kernel_rfl | exact Dle.of_eq rfl | exact MLe.of_eq rfl | exact Dle.i (by omega) | exact Dle.i (by simp only [Int.toNat_natCast] at *; omega) | exact Dle.nil | exact Dle.rc Dle.nil | exact Option.some_ne_none _ | exact Or.inl rfl | exact Or.inr trivial | omega | (simp only [Int.toNat_natCast] at *; omega) | (intro _ _ _ _; exact Dle.of_eq rfl) | refine And.intro ?_ ?_), ?_⟩
            | refine Or.inr ⟨_, _, _, s2, by kernel_rfl, (by repeat' first | exact trivial | exact rfl | kernel_rfl | exact Dle.of_eq rfl | exact MLe.of_eq rfl | exact Dle.i (by omega) | exact Dle.i (by simp only [Int.toNat_natCast] at *; omega) | exact Dle.nil | exact Dle.rc Dle.nil | exact Option.some_ne_none _ | exact Or.inl rfl | exact Or.inr trivial | omega | (simp only [Int.toNat_natCast] at *; omega) | (intro _ _ _ _; exact Dle.of_eq rfl) | refine And.intro ?_ ?_), ?_⟩
            | (refine codeW_cond rfl ?_; first | (refine condW_dec ?_ ?_ <;> intro _ <;> try (exfalso; omega)) | refine condW_not ?_ | (refine condW_bool ?_ ?_ <;> intro _ <;> try (exfalso; omega)))
            | (refine facW_intro ?_; intro _)
            | refine Or.inl ?_
            | ((conv => whnf); first | (refine condW_dec ?_ ?_ <;> intro _ <;> try (exfalso; omega)) | refine condW_not ?_ | (refine condW_bool ?_ ?_ <;> intro _ <;> try (exfalso; omega)) | (refine nbC_t (fun _ => ?_) ?_) | (refine nbC_f ?_ (fun _ => ?_)))
            | refine And.intro (by first | omega | (simp only [Int.toNat_natCast] at *; omega) | (simp only [Nat.reduceAdd, Int.cast_ofNat_Int, true_and, and_true]; omega)  | (simp only [cx, view, Nat.reduceAdd, Int.toNat_natCast]; omega) | kernel_rfl) ?_
            | refine RegW.run ?_
            | refine ⟨_, ih.args ⟨hld, hsl _ _ hn2 (fun _ _ => rfl), Dle.refl _ _, trivial⟩, ?_⟩
            | fail
          all_goals first
            | (exfalso; omega)
            | (refine Dle.tup (X := (cx Tryz.prog mixed tyT_ok E)) ⟨Dle.agg (X := (cx Tryz.prog mixed tyT_ok E)) ⟨Dle.i h6, Dle.refl _ _, Dle.refl _ _, Dle.refl _ _, row_set E (insL v.items m .zero) y m _ _ (by omega) rfl (fun i j hi hj => ?_), Dle.refl _ _, trivial⟩, Dle.refl _ _, trivial⟩
               show rowSet (rowV (insL v.items m .zero)) (0 + (m : Int).toNat) 0 [i64 y.kind, dB y.b, i64 y.i, dS y.text, .rc (.vals y.items), encStrs y.keys] i j = _
               rw [set_cell _ _ _ _ _ hj, show 0 + (m : Int).toNat = m by omega])
            | trace_state
        · rw [if_neg he]
          refine Sp.body Tryz.func19 (by kernel_rfl) rfl (by kernel_rfl) (by kernel_rfl) (by kernel_rfl) ?_
          repeat' first
            | refine Or.inr ⟨_, _, _, k1, by kernel_rfl, (by repeat' first | exact trivial | exact rfl | kernel_rfl | exact Dle.of_eq rfl | exact MLe.of_eq rfl | exact Dle.i (by omega) | exact Dle.i (by simp only [Int.toNat_natCast] at *; omega) | exact Dle.nil | exact Dle.rc Dle.nil | exact Option.some_ne_none _ | exact Or.inl rfl | exact Or.inr trivial | omega | (simp only [Int.toNat_natCast] at *; omega) | (intro _ _ _ _; exact Dle.of_eq rfl) | refine And.intro ?_ ?_), ?_⟩
            | refine Or.inr ⟨_, _, _, k2, by kernel_rfl, (by repeat' first | exact trivial | exact rfl | kernel_rfl | exact Dle.of_eq rfl | exact MLe.of_eq rfl | exact Dle.i (by omega) | exact Dle.i (by simp only [Int.toNat_natCast] at *; omega) | exact Dle.nil | exact Dle.rc Dle.nil | exact Option.some_ne_none _ | exact Or.inl rfl | exact Or.inr trivial | omega | (simp only [Int.toNat_natCast] at *; omega) | (intro _ _ _ _; exact Dle.of_eq rfl) | refine And.intro ?_ ?_), ?_⟩
            | refine Or.inr ⟨_, _, _, hct, by kernel_rfl, (by repeat' first | exact trivial | exact rfl | kernel_rfl | exact Dle.of_eq rfl | exact MLe.of_eq rfl | exact Dle.i (by omega) | exact Dle.i (by simp only [Int.toNat_natCast] at *; omega) | exact Dle.nil | exact Dle.rc Dle.nil | exact Option.some_ne_none _ | exact Or.inl rfl | exact Or.inr trivial | omega | (simp only [Int.toNat_natCast] at *; omega) | (intro _ _ _ _; exact Dle.of_eq rfl) | refine And.intro ?_ ?_), ?_⟩
            | refine Or.inr ⟨_, _, _, hb, by kernel_rfl, (by repeat' first | exact trivial | exact rfl | kernel_rfl | exact Dle.of_eq rfl | exact MLe.of_eq rfl | exact Dle.i (by omega) | exact Dle.i (by simp only [Int.toNat_natCast] at *; omega) | exact Dle.nil | exact Dle.rc Dle.nil | exact Option.some_ne_none _ | exact Or.inl rfl | exact Or.inr trivial | omega | (simp only [Int.toNat_natCast] at *; omega) | (intro _ _ _ _; exact Dle.of_eq rfl) | refine And.intro ?_ ?_), ?_⟩
            | refine Or.inr ⟨_, _, _, i1, by kernel_rfl, (by repeat' first | exact trivial | exact rfl | kernel_rfl | exact Dle.of_eq rfl | exact MLe.of_eq rfl | exact Dle.i (by omega) | exact Dle.i (by simp only [Int.toNat_natCast] at *; omega) | exact Dle.nil | exact Dle.rc Dle.nil | exact Option.some_ne_none _ | exact Or.inl rfl | exact Or.inr trivial | omega | (simp only [Int.toNat_natCast] at *; omega) | (intro _ _ _ _; exact Dle.of_eq rfl) | refine And.intro ?_ ?_), ?_⟩
            | refine Or.inr ⟨_, _, _, i2, by kernel_rfl, (by repeat' first | exact trivial | exact rfl | kernel_rfl | exact Dle.of_eq rfl | exact MLe.of_eq rfl | exact Dle.i (by omega) | exact Dle.i (by simp only [Int.toNat_natCast] at *; omega) | exact Dle.nil | exact Dle.rc Dle.nil | exact Option.some_ne_none _ | exact Or.inl rfl | exact Or.inr trivial | omega | (simp only [Int.toNat_natCast] at *; omega) | (intro _ _ _ _; exact Dle.of_eq rfl) | refine And.intro ?_ ?_), ?_⟩
            | refine Or.inr ⟨_, _, _, s2, by kernel_rfl, (by repeat' first | exact trivial | exact rfl | kernel_rfl | exact Dle.of_eq rfl | exact MLe.of_eq rfl | exact Dle.i (by omega) | exact Dle.i (by simp only [Int.toNat_natCast] at *; omega) | exact Dle.nil | exact Dle.rc Dle.nil | exact Option.some_ne_none _ | exact Or.inl rfl | exact Or.inr trivial | omega | (simp only [Int.toNat_natCast] at *; omega) | (intro _ _ _ _; exact Dle.of_eq rfl) | refine And.intro ?_ ?_), ?_⟩
            | (refine codeW_cond rfl ?_; first | (refine condW_dec ?_ ?_ <;> intro _ <;> try (exfalso; omega)) | refine condW_not ?_ | (refine condW_bool ?_ ?_ <;> intro _ <;> try (exfalso; omega)))
            | (refine facW_intro ?_; intro _)
            | refine Or.inl ?_
            | ((conv => whnf); first | (refine condW_dec ?_ ?_ <;> intro _ <;> try (exfalso; omega)) | refine condW_not ?_ | (refine condW_bool ?_ ?_ <;> intro _ <;> try (exfalso; omega)) | (refine nbC_t (fun _ => ?_) ?_) | (refine nbC_f ?_ (fun _ => ?_)))
            | refine And.intro (by first | omega | (simp only [Int.toNat_natCast] at *; omega) | (simp only [Nat.reduceAdd, Int.cast_ofNat_Int, true_and, and_true]; omega)  | (simp only [cx, view, Nat.reduceAdd, Int.toNat_natCast]; omega) | kernel_rfl) ?_
            | refine RegW.run ?_
            | refine ⟨_, ih.args ⟨hld, hsl _ _ hn2 (fun _ _ => rfl), Dle.refl _ _, trivial⟩, ?_⟩
            | fail
          all_goals first
            | (exfalso; omega)
            | exact Dle.tup (X := (cx Tryz.prog mixed tyT_ok E)) ⟨zeroC E, Dle.refl _ _, trivial⟩
            | trace_state
  · have hso : setS (⟨p, 0, false⟩ :: t.map stepOf) v x = (.zero, 10) := set_no (by omega) (by unfold kindS; rw [if_neg hpe]; omega)
    rw [hso]
    refine Sp.body Tryz.func19 (by kernel_rfl) rfl (by kernel_rfl) (by kernel_rfl) (by kernel_rfl) ?_
    repeat' first
      | refine Or.inr ⟨_, _, _, k1, by kernel_rfl, (by repeat' first | exact trivial | exact rfl | kernel_rfl | exact Dle.of_eq rfl | exact MLe.of_eq rfl | exact Dle.i (by omega) | exact Dle.i (by simp only [Int.toNat_natCast] at *; omega) | exact Dle.nil | exact Dle.rc Dle.nil | exact Option.some_ne_none _ | exact Or.inl rfl | exact Or.inr trivial | omega | (simp only [Int.toNat_natCast] at *; omega) | (intro _ _ _ _; exact Dle.of_eq rfl) | refine And.intro ?_ ?_), ?_⟩
      | refine Or.inr ⟨_, _, _, k2, by kernel_rfl, (by repeat' first | exact trivial | exact rfl | kernel_rfl | exact Dle.of_eq rfl | exact MLe.of_eq rfl | exact Dle.i (by omega) | exact Dle.i (by simp only [Int.toNat_natCast] at *; omega) | exact Dle.nil | exact Dle.rc Dle.nil | exact Option.some_ne_none _ | exact Or.inl rfl | exact Or.inr trivial | omega | (simp only [Int.toNat_natCast] at *; omega) | (intro _ _ _ _; exact Dle.of_eq rfl) | refine And.intro ?_ ?_), ?_⟩
      | (refine codeW_cond rfl ?_; first | (refine condW_dec ?_ ?_ <;> intro _ <;> try (exfalso; omega)) | refine condW_not ?_ | (refine condW_bool ?_ ?_ <;> intro _ <;> try (exfalso; omega)))
      | (refine facW_intro ?_; intro _)
      | refine Or.inl ?_
      | ((conv => whnf); first | (refine condW_dec ?_ ?_ <;> intro _ <;> try (exfalso; omega)) | refine condW_not ?_ | (refine condW_bool ?_ ?_ <;> intro _ <;> try (exfalso; omega)) | (refine nbC_t (fun _ => ?_) ?_) | (refine nbC_f ?_ (fun _ => ?_)))
      | refine And.intro (by first | omega | (simp only [Int.toNat_natCast] at *; omega) | (simp only [Nat.reduceAdd, Int.cast_ofNat_Int, true_and, and_true]; omega)  | (simp only [cx, view, Nat.reduceAdd, Int.toNat_natCast]; omega) | kernel_rfl) ?_
      | refine RegW.run ?_
      | fail
    all_goals first
      | (exfalso; omega)
      | exact Dle.tup (X := (cx Tryz.prog mixed tyT_ok E)) ⟨zeroC E, Dle.refl _ _, trivial⟩
      | trace_state
end
end se
end Go.Proofs.YtjbgafbijamckaaGreatDoor
