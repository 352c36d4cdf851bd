/-
  What is put or taken away leaves no fault, plain. conf.Compare and the reference's CompareOf. The same value: the reference's SameOf, in general. What Set answers; the program's Set and the reference's. conf.changeFault: what is wrong with a change.
-/
import Derived.Test.YtjbgafbijamckaaGreatDoorSe3
import Derived.Test.YtjbgafbijamckaaGreatDoorU7
import Derived.Test.YtjbgafbijamckaaGreatDoorSe2
import Derived.Test.YtjbgafbijamckaaGreatDoorSe6
namespace Go.Proofs.YtjbgafbijamckaaGreatDoor
open Go.RowKit
set_option linter.unusedVariables false
set_option linter.unusedSimpArgs false
namespace ap
open cr se
theorem faultL_iff : ∀ l : List Vu, faultL l = 0 ↔ ∀ x ∈ l, faultE x = 0
  | [] => by simp [faultL]
  | x :: r => by
    have ih := faultL_iff r
    rw [faultL]
    by_cases h : faultE x = 0
    · rw [if_pos h, ih]
      simp [h]
    · rw [if_neg h]
      simp [h]
theorem keys_zero {l : List ByteArray} (h1 : ∀ i, i < l.length → keyOkB (l.getD i ⟨#[]⟩) = true) (h2 : Srt l) : ∀ n k, l.length - k < n → keysFrom l k = 0
  | 0, k, h => by omega
  | n + 1, k, h => by
    by_cases hk : k < l.length
    · have ih := keys_zero h1 h2 n (k + 1) (by omega)
      by_cases h0 : 0 < k
      · rw [keysFrom_next hk (h1 k hk), ih]
        have h3 := h2 (k - 1) k (by omega) hk
        rw [Bool.or_eq_false_iff]
        refine ⟨?_, ?_⟩
        · cases h4 : strLt (l.getD k ⟨#[]⟩) (l.getD (k - 1) ⟨#[]⟩) with
          | false => rfl
          | true =>
            have := strLt_trans h3 h4
            rw [strLt_irrefl] at this
            cases this
        · rw [decide_eq_false_iff_not]
          intro e
          rw [e, strLt_irrefl] at h3
          cases h3
      · rw [keysFrom_next0 hk (h1 k hk) h0, ih]
    · exact keysFrom_end hk
theorem bad0 : badStr ⟨#[]⟩ = false := by unfold badStr; rfl
theorem fault5 (l : List Vu) : faultE (.mk 5 false 0 ⟨#[]⟩ l []) = 0 ↔ ∀ x ∈ l, faultE x = 0 := by
  have hk : keysFrom [] 0 = 0 := keysFrom_end (by simp)
  have hh : headE (.mk 5 false 0 ⟨#[]⟩ l []) = 0 := by
    unfold headE
    simp [unusedP, Vu.kind, Vu.b, Vu.i, Vu.text, Vu.items, Vu.keys, bad0, hk, show (⟨#[]⟩ : ByteArray).size = 0 from rfl]
  rw [faultE_eq, if_pos hh]
  exact faultL_iff l
theorem fault6 (l : List Vu) (ks : List ByteArray) : faultE (.mk 6 false 0 ⟨#[]⟩ l ks) = 0 ↔ ks.length = l.length ∧ (∀ i, i < ks.length → keyOkB (ks.getD i ⟨#[]⟩) = true) ∧ Srt ks ∧ ∀ x ∈ l, faultE x = 0 := by
  constructor
  · intro h
    obtain ⟨h1, h2⟩ := fault_head h
    have h3 := (head_ok h1).2
    exact ⟨(fault_keys h).2 rfl, fun i hi => (keysFrom_ok (ks.length + 1) ks 0 (by omega) h3 i (Nat.zero_le _) hi).1, (fault_keys h).1, (faultL_iff l).1 h2⟩
  · rintro ⟨h1, h2, h3, h4⟩
    have hk : keysFrom ks 0 = 0 := keys_zero h2 h3 (ks.length + 1) 0 (by omega)
    have hh : headE (.mk 6 false 0 ⟨#[]⟩ l ks) = 0 := by
      unfold headE
      simp [unusedP, Vu.kind, Vu.b, Vu.i, Vu.text, Vu.items, Vu.keys, bad0, hk, h1, show (⟨#[]⟩ : ByteArray).size = 0 from rfl]
    rw [faultE_eq, if_pos hh]
    exact (faultL_iff l).2 h4
theorem form {v : Vu} (h : faultE v = 0) (hk : v.kind = 5 ∨ v.kind = 6) : v = .mk v.kind false 0 ⟨#[]⟩ v.items v.keys := by
  obtain ⟨c1, c2, c3, _⟩ := clean v h (by omega)
  cases v with
  | mk k b i t l ks =>
    simp only [Vu.b, Vu.i, Vu.text] at c1 c2 c3
    subst c1 c2 c3
    rfl
theorem form5 {v : Vu} (h : faultE v = 0) (hk : v.kind = 5) : v = .mk 5 false 0 ⟨#[]⟩ v.items [] := by
  have h1 := form h (.inl hk)
  rw [hk, (clean v h (by omega)).2.2.2 (by omega)] at h1
  exact h1
theorem form6 {v : Vu} (h : faultE v = 0) (hk : v.kind = 6) : v = .mk 6 false 0 ⟨#[]⟩ v.items v.keys := by
  have h1 := form h (.inr hk)
  rw [hk] at h1
  exact h1
theorem set_all {l : List Vu} {y : Vu} {m : Nat} (h : ∀ x ∈ l, faultE x = 0) (hy : faultE y = 0) : ∀ x ∈ l.set m y, faultE x = 0 := fun x hx => by
  rcases List.mem_or_eq_of_mem_set hx with h1 | h1
  · exact h x h1
  · exact h1 ▸ hy
theorem ins_all {l : List Vu} {y : Vu} {m : Nat} (h : ∀ x ∈ l, faultE x = 0) (hy : faultE y = 0) : ∀ x ∈ insL l m y, faultE x = 0 := fun x hx => by
  unfold insL at hx
  rw [List.mem_append, List.mem_cons] at hx
  rcases hx with h1 | rfl | h1
  · exact h x (List.mem_of_mem_take h1)
  · exact hy
  · exact h x (List.mem_of_mem_drop h1)
theorem put_fault {u y : Vu} {key : ByteArray} (hu : faultE u = 0) (h6 : u.kind = 6) (hy : faultE y = 0) (hk : keyOkB key = true) : faultE (putK u key y) = 0 := by
  have hu6 := hu
  rw [form6 hu h6] at hu6
  obtain ⟨h1, h2, h3, h4⟩ := (fault6 _ _).1 hu6
  have c := clean u hu (by omega)
  have hm := find_le u key
  cases hh : hasK u key with
  | true =>
    have hlt := has_lt hh
    rw [putK_yes0 u key y hh (by omega)]
    exact (fault6 _ _).2 ⟨by rw [List.length_set]; exact h1, h2, h3, set_all h4 hy⟩
  | false =>
    have e : putK u key y = .mk 6 false 0 ⟨#[]⟩ (insL u.items (findK u key) y) (insL u.keys (findK u key) key) := by
      unfold putK insL
      rw [hh]
      rfl
    rw [e]
    obtain ⟨b1, b2⟩ := bsr_spec (x := key) h3 (u.keys.length + 1) 0 u.keys.length (by omega) (by omega) (Nat.le_refl _) (fun k hk => by omega) (fun k hk hk2 => by omega)
    have e5 : findK u key = bsr u.keys key 0 u.keys.length := rfl
    rw [← e5] at b1 b2
    have ne : ∀ k, k < u.keys.length → u.keys.getD k ⟨#[]⟩ ≠ key := fun k hk e => by
      rw [(rs.find_at h3 hk e).2] at hh
      cases hh
    have hl := insL_len u.keys (findK u key) key hm
    refine (fault6 _ _).2 ⟨by rw [hl, insL_len _ _ _ (by omega)]; omega, fun i hi => ?_, fun i j hij hj => ?_, ins_all h4 hy⟩
    · rw [insL_at _ _ _ _ _ hm]
      split
      · exact h2 i (by omega)
      · split
        · exact hk
        · exact h2 (i - 1) (by omega)
    · rw [insL_at _ _ _ _ _ hm, insL_at _ _ _ _ _ hm]
      by_cases a : i < findK u key
      · rw [if_pos a]
        by_cases b : j < findK u key
        · rw [if_pos b]
          exact h3 i j hij (by omega)
        · rw [if_neg b]
          by_cases d : j = findK u key
          · rw [if_pos d]
            exact b1 i a
          · rw [if_neg d]
            exact h3 i (j - 1) (by omega) (by omega)
      · rw [if_neg a, if_neg (show ¬ j < findK u key by omega), if_neg (show ¬ j = findK u key by omega)]
        by_cases d : i = findK u key
        · rw [if_pos d]
          exact strLt_total (b2 (j - 1) (by omega) (by omega)) (ne (j - 1) (by omega))
        · rw [if_neg d]
          exact h3 (i - 1) (j - 1) (by omega) (by omega)
/-- Steps as routes have them. -/
def stOk (s : Stp) : Prop := s.ok ∧ (s.key ≠ ⟨#[]⟩ → keyOkB s.key = true)
theorem steps_fine {P : List ByteArray} (h : ∀ p ∈ P, partOk false p = true) : ∀ s ∈ P.map stepOf, stOk s := fun s hs => by
  refine ⟨steps_ok P s hs, fun hk => ?_⟩
  obtain ⟨p, hp, rfl⟩ := List.mem_map.1 hs
  rcases (part_cases (h p hp)).2 with ⟨h1, _⟩ | ⟨h1, h2, _⟩
  · have e : stepOf p = ⟨p, 0, false⟩ := by unfold stepOf; rw [if_pos h1]
    rw [e]
    exact h1
  · rw [step_idx h1 h2] at hk
    exact absurd rfl hk
theorem fol_fault {v : Vu} {s : Stp} (hs : s.ok) (hf : faultE v = 0) : faultE ((followS v s).getD .zero) = 0 := by
  cases h : followS v s with
  | none => exact fault_empty 0 (.inl rfl)
  | some x => exact (follow_mem hs hf h).1
theorem setS_fault : ∀ (L : List Stp) (v x : Vu), (∀ s ∈ L, stOk s) → faultE v = 0 → faultE x = 0 → faultE (setS L v x).1 = 0
  | [], v, x, _, _, hx => hx
  | s :: r, v, x, hs, hv, hx => by
    have hz : faultE Vu.zero = 0 := fault_empty 0 (.inl rfl)
    have hs0 := hs s List.mem_cons_self
    have hu := asK_fault v s hv
    unfold setS
    split
    · exact hz
    · rename_i h1
      have h1 := Classical.not_not.1 h1
      split
      · exact hz
      · split
        · exact hz
        · have ih := setS_fault r ((followS (asK v (kindS s)) s).getD .zero) x (fun q hq => hs q (List.mem_cons_of_mem _ hq)) (fol_fault hs0.1 hu) hx
          show faultE (putAt _ _ _) = 0
          generalize (setS r ((followS (asK v (kindS s)) s).getD .zero) x).1 = y at ih
          generalize asK v (kindS s) = u at *
          unfold kindS at h1
          unfold putAt
          by_cases hk : s.key = ⟨#[]⟩
          · rw [if_pos hk] at h1
            rw [if_pos hk]
            have h5 := hu
            rw [form5 hu h1] at h5
            have h5 := (fault5 _).1 h5
            refine (fault5 _).2 ?_
            split
            · intro q hq
              rw [List.mem_append, List.mem_singleton] at hq
              rcases hq with hq | rfl
              · exact h5 q hq
              · exact ih
            · exact set_all h5 ih
          · rw [if_neg hk] at h1
            rw [if_neg hk]
            exact put_fault hu h1 ih (hs0.2 hk)
theorem erase_all {l : List Vu} {m : Nat} (h : ∀ x ∈ l, faultE x = 0) : ∀ x ∈ l.eraseIdx m, faultE x = 0 := fun x hx => h x (List.mem_of_mem_eraseIdx hx)
theorem remS_fault : ∀ (L : List Stp) (v y : Vu), (∀ s ∈ L, s.ok) → faultE v = 0 → remS L v = some y → faultE y = 0
  | [], v, y, _, _, h => by simp [remS] at h
  | [s], v, y, hs, hv, h => by
    have hs0 := hs s List.mem_cons_self
    unfold remS at h
    split at h
    · cases h
    · rename_i x hx
      injection h with h
      subst h
      obtain ⟨p1, p2, p3, p4⟩ := pos_at hs0 hv hx
      unfold remAt
      by_cases hk : s.key = ⟨#[]⟩
      · have h5 := p3 hk
        have e := form5 hv h5
        have hv5 := hv
        rw [e] at hv5
        have hv5 := (fault5 _).1 hv5
        obtain ⟨c1, c2, c3, c4⟩ := clean v hv (by omega)
        rw [if_neg (by omega), c1, c2, c3, c4 (by omega), h5]
        exact (fault5 _).2 (erase_all hv5)
      · obtain ⟨h6, p5, p6⟩ := p4 hk
        have hv6 := hv
        rw [form6 hv h6] at hv6
        obtain ⟨h1, h2, h3, h4⟩ := (fault6 _ _).1 hv6
        obtain ⟨c1, c2, c3, c4⟩ := clean v hv (by omega)
        rw [if_pos h6, c1, c2, c3, h6]
        have l1 := erase_len v.keys (posS v s) p5
        have l2 := erase_len v.items (posS v s) p1
        refine (fault6 _ _).2 ⟨by omega, fun i hi => ?_, fun i j hij hj => ?_, erase_all h4⟩
        · rw [erase_at]
          split
          · exact h2 i (by omega)
          · exact h2 (i + 1) (by omega)
        · rw [erase_at, erase_at]
          by_cases a : j < posS v s
          · rw [if_pos (show i < posS v s by omega), if_pos a]
            exact h3 i j hij (by omega)
          · rw [if_neg a]
            split
            · exact h3 i (j + 1) (by omega) (by omega)
            · exact h3 (i + 1) (j + 1) (by omega) (by omega)
  | s :: t :: r, v, y, hs, hv, h => by
    have hs0 := hs s List.mem_cons_self
    unfold remS at h
    split at h
    · cases h
    · rename_i x hx
      split at h
      · cases h
      · rename_i z hz
        injection h with h
        subst h
        obtain ⟨p1, p2, p3, p4⟩ := pos_at hs0 hv hx
        have ih := remS_fault (t :: r) x z (fun q hq => hs q (List.mem_cons_of_mem _ hq)) (follow_mem hs0 hv hx).1 hz
        unfold setAt
        by_cases hk : s.key = ⟨#[]⟩
        · have h5 := p3 hk
          have hv5 := hv
          rw [form5 hv h5] at hv5
          have hv5 := (fault5 _).1 hv5
          obtain ⟨c1, c2, c3, c4⟩ := clean v hv (by omega)
          rw [c1, c2, c3, c4 (by omega), h5]
          exact (fault5 _).2 (set_all hv5 ih)
        · obtain ⟨h6, p5, p6⟩ := p4 hk
          have hv6 := hv
          rw [form6 hv h6] at hv6
          obtain ⟨h1, h2, h3, h4⟩ := (fault6 _ _).1 hv6
          obtain ⟨c1, c2, c3, c4⟩ := clean v hv (by omega)
          rw [c1, c2, c3, h6]
          exact (fault6 _ _).2 ⟨by rw [List.length_set]; exact h1, h2, h3, set_all h4 ih⟩
end ap
end Go.Proofs.YtjbgafbijamckaaGreatDoor
namespace Go.Proofs.YtjbgafbijamckaaGreatDoor
open Go.RowKit
set_option linter.unusedVariables false
set_option linter.unusedSimpArgs false
theorem sgn_bit (a b : Bool) : sgn (bitI a) (bitI b) = if a = b then 0 else if b = true then -1 else 1 := by cases a <;> cases b <;> rfl
section
variable (E : Env)
set_option maxRecDepth 100000
set_option maxHeartbeats 4000000 in
theorem compareOf_sp : ∀ (N : Nat) (v w : Vu), SizeOf.sizeOf v < N → Sp (cx Tryz.prog mixed tyT_ok E) 20 [encV v, encV w] (i64 (cmpV v w))
  | 0, v, w, h => by omega
  | N + 1, v, w, h => by
    have ih := fun x y (hx : x ∈ v.items) => compareOf_sp N x y (by have := items_lt v x hx; omega)
    have hb := sgn_bit v.b w.b
    obtain ⟨r, hr⟩ : ∃ r, r = cmpV v w := ⟨_, rfl⟩
    rw [← hr]
    rw [cmpV_eq] at hr
    unfold cmpH at hr
    have c1 := cmpI_sp E v.kind w.kind
    have c2 := cmpI_sp E v.i w.i
    have c3 := strCmp_sp E v.text w.text
    have c4 := slCmp_sp E v.keys w.keys
    generalize sgn v.kind w.kind = a1 at hr c1
    generalize sgn (bitI v.b) (bitI w.b) = a2 at hr hb
    generalize sgn v.i w.i = a3 at hr c2
    generalize cmpS v.text w.text = a4 at hr c3
    generalize cmpK v.keys w.keys 0 = a5 at hr c4
    refine Sp.body Tryz.func20 (by kernel_rfl) rfl (by kernel_rfl) (by kernel_rfl) (by kernel_rfl) ?_
    repeat' first
      | (refine facW_intro ?_; intro _)
      | refine Or.inl ?_
      | ((conv => whnf); first | (refine condW_dec ?_ ?_ <;> intro _) | refine condW_not ?_ | (refine condW_bool ?_ ?_ <;> intro _) | (refine nbC_t (fun _ => ?_) ?_) | (refine nbC_f ?_ (fun _ => ?_)))
      | refine And.intro (by first | omega | (simp only [Int.toNat_natCast] at *; omega) | (simp only [Nat.reduceAdd, Int.cast_ofNat_Int, true_and, and_true]; omega)  | kernel_rfl) ?_
      | refine RegW.run ?_
      | refine ⟨_, c1, ?_⟩
      | refine ⟨_, c2, ?_⟩
      | refine ⟨_, c3, ?_⟩
      | refine ⟨_, c4, ?_⟩
      | refine ⟨_, or3_sp E _ _ _, ?_⟩
      | fail
    all_goals first
      | exact Dle.i (by rw [hr]; grind)
      | skip
    all_goals
      have hr : r = cmpL v.items w.items := by rw [hr]; grind
      refine ⟨Nat, fun k => [(7, i64 k)], fun k => [], [2, 3], fun k => [], fun k => k ≤ v.items.length ∧ k ≤ w.items.length ∧ r = cmpL (v.items.drop k) (w.items.drop k), fun k => v.items.length - k, ⟨0, ⟨by omega, by omega, hr⟩, ⟨[], ⟨by kernel_rfl, by kernel_rfl, by kernel_rfl, by kernel_rfl, by kernel_rfl, by kernel_rfl, by kernel_rfl⟩, (by repeat' first | exact trivial | exact rfl | kernel_rfl | exact Dle.of_eq rfl | exact MLe.of_eq rfl | exact Dle.i (by omega) | exact Dle.i (by simp only [Int.toNat_natCast] at *; omega) | exact Dle.nil | exact Dle.rc Dle.nil | exact Option.some_ne_none _ | exact Or.inl rfl | exact Or.inr trivial | omega | (simp only [Int.toNat_natCast] at *; omega) | (intro _ _ _ _; exact Dle.of_eq rfl) | refine And.intro ?_ ?_)⟩⟩, fun k hk => ?_⟩
      obtain ⟨hk, hk2, hK⟩ := hk
      by_cases hlt : k < v.items.length ∧ k < w.items.length
      · obtain ⟨hl1, hl2⟩ := hlt
        rw [cmpL_drop hl1 hl2] at hK
        have hc := ih _ (w.items.getD k .zero) (getD_mem v.items .zero k hl1)
        generalize cmpV (v.items.getD k .zero) (w.items.getD k .zero) = e at hK hc
        repeat' first
          | (refine facW_intro ?_; intro _)
          | refine Or.inl ?_
          | ((conv => whnf); first | (refine condW_dec ?_ ?_ <;> intro _ <;> try (exfalso; omega)) | refine condW_not ?_ | (refine condW_bool ?_ ?_ <;> intro _ <;> try (exfalso; omega)) | (refine nbC_t (fun _ => ?_) ?_) | (refine nbC_f ?_ (fun _ => ?_)))
          | refine And.intro (by first | omega | (simp only [Int.toNat_natCast] at *; omega) | (simp only [Nat.reduceAdd, Int.cast_ofNat_Int, true_and, and_true]; omega)  | kernel_rfl) ?_
          | refine RegW.run ?_
          | refine ⟨_, hc, ?_⟩
          | fail
        all_goals first
          | exact ⟨k + 1, ⟨by omega, by omega, by rw [hK]; grind⟩, ⟨[], ⟨by kernel_rfl, by kernel_rfl, by kernel_rfl, by kernel_rfl, by kernel_rfl, by kernel_rfl, by kernel_rfl⟩, (by repeat' first | exact trivial | exact rfl | kernel_rfl | exact Dle.of_eq rfl | exact MLe.of_eq rfl | exact Dle.i (by omega) | exact Dle.i (by simp only [Int.toNat_natCast] at *; omega) | exact Dle.nil | exact Dle.rc Dle.nil | exact Option.some_ne_none _ | exact Or.inl rfl | exact Or.inr trivial | omega | (simp only [Int.toNat_natCast] at *; omega) | (intro _ _ _ _; exact Dle.of_eq rfl) | refine And.intro ?_ ?_)⟩, by first | omega | (dsimp only; omega)⟩
          | exact Dle.i (by rw [hK]; grind)
          | trace_state
      · rw [cmpL_end hk hk2 hlt] at hK
        repeat' first
          | (refine facW_intro ?_; intro _)
          | refine Or.inl ?_
          | ((conv => whnf); first | (refine condW_dec ?_ ?_ <;> intro _ <;> try (exfalso; omega)) | refine condW_not ?_ | (refine condW_bool ?_ ?_ <;> intro _ <;> try (exfalso; omega)) | (refine nbC_t (fun _ => ?_) ?_) | (refine nbC_f ?_ (fun _ => ?_)))
          | refine And.intro (by first | omega | (simp only [Int.toNat_natCast] at *; omega) | (simp only [Nat.reduceAdd, Int.cast_ofNat_Int, true_and, and_true]; omega)  | kernel_rfl) ?_
          | refine RegW.run ?_
          | refine ⟨_, cmpI_sp E _ _, ?_⟩
          | fail
        all_goals exact Dle.i (by rw [hK])
end
end Go.Proofs.YtjbgafbijamckaaGreatDoor
namespace Go.Proofs.YtjbgafbijamckaaGreatDoor
open Go.RowKit
set_option linter.unusedVariables false
set_option linter.unusedSimpArgs false
namespace ap
def zeroP (v : Vu) : Prop := v.kind = 0 ∧ v.b = false ∧ v.i = 0 ∧ v.text = ⟨#[]⟩ ∧ v.items.length = 0 ∧ v.keys.length = 0
instance (v : Vu) : Decidable (zeroP v) := by unfold zeroP; infer_instance
theorem cmpB_nil (l : List UInt8) : Lib.compareBytes l [] = 0 ↔ l = [] := by cases l <;> simp [Lib.compareBytes]
theorem cmpV_zero (v : Vu) : cmpV v .zero = 0 ↔ zeroP v := by
  rw [cmpV_eq]
  unfold cmpH zeroP
  have e1 : sgn v.kind Vu.zero.kind = 0 ↔ v.kind = 0 := by show sgn v.kind 0 = 0 ↔ _; unfold sgn; split <;> (try split) <;> omega
  have e2 : sgn (bitI v.b) (bitI Vu.zero.b) = 0 ↔ v.b = false := by show sgn (bitI v.b) 0 = 0 ↔ _; cases v.b <;> simp [sgn, bitI]
  have e3 : sgn v.i Vu.zero.i = 0 ↔ v.i = 0 := by show sgn v.i 0 = 0 ↔ _; unfold sgn; split <;> (try split) <;> omega
  have e4 : cmpS v.text Vu.zero.text = 0 ↔ v.text = ⟨#[]⟩ := by
    show Lib.compareBytes v.text.data.toList [] = 0 ↔ _
    rw [cmpB_nil]
    cases v.text with | mk d => cases d with | mk l => simp
  have e5 : cmpK v.keys Vu.zero.keys 0 = 0 ↔ v.keys.length = 0 := by
    rw [cmpK_end (fun h => by exact absurd h.2 (Nat.not_lt_zero _))]
    show sgn v.keys.length 0 = 0 ↔ _
    unfold sgn
    split <;> (try split) <;> omega
  have e6 : cmpL v.items Vu.zero.items = 0 ↔ v.items.length = 0 := by
    show cmpL v.items [] = 0 ↔ _
    cases v.items <;> simp [cmpL]
  grind
theorem sgn_self (a : Int) : sgn a a = 0 := by unfold sgn; rw [if_neg (by omega), if_neg (by omega)]
theorem cmpB_self : ∀ l : List UInt8, Lib.compareBytes l l = 0
  | [] => by simp [Lib.compareBytes]
  | x :: r => by
    have := cmpB_self r
    simp [Lib.compareBytes, this]
theorem cmpS_self (s : ByteArray) : cmpS s s = 0 := cmpB_self _
theorem cmpK_self (l : List ByteArray) : ∀ n k, l.length - k < n → cmpK l l k = 0
  | 0, k, h => by omega
  | n + 1, k, h => by
    by_cases hk : k < l.length
    · rw [cmpK_eq ⟨hk, hk⟩ (cmpS_self _)]
      exact cmpK_self l n (k + 1) (by omega)
    · rw [cmpK_end (fun h => hk h.1)]
      exact sgn_self _
theorem cmpH_self (v : Vu) : cmpH v v = 0 := by
  unfold cmpH
  rw [sgn_self, sgn_self, sgn_self, cmpS_self, cmpK_self v.keys _ 0 (Nat.lt_succ_self _)]
  simp
mutual
theorem cmpV_self : ∀ v : Vu, cmpV v v = 0
  | .mk k b i t l ks => by
    have h1 := cmpH_self (.mk k b i t l ks)
    have h2 := cmpL_self l
    simp only [cmpV, Vu.items]
    rw [if_neg (fun h => h h1)]
    exact h2
theorem cmpL_self : ∀ l : List Vu, cmpL l l = 0
  | [] => by simp only [cmpL]
  | x :: r => by
    have h1 := cmpV_self x
    have h2 := cmpL_self r
    simp only [cmpL]
    rw [if_neg (fun h => h h1)]
    exact h2
end
section
variable (E : Env)
set_option maxRecDepth 100000
theorem sameOf_sp (a b : Vu) : Sp (cx Tryz.prog mixed tyT_ok E) 8 [encV a, encV b] (dB (decide (cmpV a b = 0))) := by
  have h1 := compareOf_sp E _ a b (Nat.lt_succ_self _)
  generalize cmpV a b = r at h1
  refine Sp.body Tryz.func8 (by kernel_rfl) rfl (by kernel_rfl) (by kernel_rfl) (by kernel_rfl) ?_
  repeat' first
    | (refine codeW_cond rfl ?_; first | (refine condW_dec ?_ ?_ <;> intro _ <;> try (exfalso; omega)) | refine condW_not ?_ | (refine condW_bool ?_ ?_ <;> intro _ <;> try (exfalso; omega)))
    | (refine facW_intro ?_; intro _)
    | refine Or.inl ?_
    | ((conv => whnf); first | (refine condW_dec ?_ ?_ <;> intro _) | refine condW_not ?_ | (refine condW_bool ?_ ?_ <;> intro _) | (refine nbC_t (fun _ => ?_) ?_) | (refine nbC_f ?_ (fun _ => ?_)))
    | refine And.intro (by first | omega | (simp only [Int.toNat_natCast] at *; omega) | (simp only [Nat.reduceAdd, Int.cast_ofNat_Int, true_and, and_true]; omega)  | (simp only [cx, view, Nat.reduceAdd, Int.toNat_natCast]; omega) | kernel_rfl) ?_
    | refine RegW.run ?_
    | refine ⟨_, h1, ?_⟩
    | fail
  all_goals exact Dle.refl _ _
theorem sameZero_sp (v : Vu) : Sp (cx Tryz.prog mixed tyT_ok E) 8 [encV v, .agg [i64 0, dB false, i64 0, dS ⟨#[]⟩, .v (.slice none 0 0), .v (.slice none 0 0)]] (dB (decide (zeroP v))) := by
  have h0 := sameOf_sp E v .zero
  have he : decide (zeroP v) = decide (cmpV v .zero = 0) := by rw [Bool.eq_iff_iff]; simp [cmpV_zero v]
  rw [he]
  exact h0.args ⟨Dle.refl _ _, Dle.agg ⟨Dle.refl _ _, Dle.refl _ _, Dle.refl _ _, Dle.refl _ _, Dle.rc (X := (cx Tryz.prog mixed tyT_ok E)) Dle.nil, Dle.nil (X := (cx Tryz.prog mixed tyT_ok E)), trivial⟩, trivial⟩
theorem sameSelf_sp (v : Vu) : Sp (cx Tryz.prog mixed tyT_ok E) 8 [encV v, encV v] (dB true) := by
  have h0 := sameOf_sp E v v
  rw [cmpV_self v, decide_eq_true rfl] at h0
  exact h0
end
end ap
end Go.Proofs.YtjbgafbijamckaaGreatDoor
namespace Go.Proofs.YtjbgafbijamckaaGreatDoor
open Go.RowKit
set_option linter.unusedVariables false
set_option linter.unusedSimpArgs false
namespace se
open cr
/-- What Set answers. -/
def setR (v : Vu) (s : ByteArray) (x : Vu) : Vu × Int :=
  if checkE v ≠ 0 then (.zero, checkE v) else if checkE x ≠ 0 then (.zero, checkE x) else if routeOk false s = false then (.zero, 3)
  else if (setS ((partsR s).map stepOf) v x).2 ≠ 0 then (.zero, (setS ((partsR s).map stepOf) v x).2)
  else if checkE (setS ((partsR s).map stepOf) v x).1 ≠ 0 then (.zero, checkE (setS ((partsR s).map stepOf) v x).1)
  else ((setS ((partsR s).map stepOf) v x).1, 0)
/-- The weight that a route's steps may add. -/
theorem stW_le (P : List ByteArray) (h : ∀ p ∈ P, partOk false p = true) : stW (P.map stepOf) ≤ P.length * 42 := by
  induction P with
  | nil => exact Nat.le_refl _
  | cons p t ih =>
    have ih := ih (fun q hq => h q (List.mem_cons_of_mem _ hq))
    have h0 := h p List.mem_cons_self
    have hk : (stepOf p).key.size ≤ 40 := by
      rcases (part_cases h0).2 with ⟨h1, _⟩ | ⟨h1, h2, _⟩
      · have e : stepOf p = ⟨p, 0, false⟩ := by unfold stepOf; rw [if_pos h1]
        rw [e]
        unfold keyOkB at h1
        simp only [Bool.and_eq_true, decide_eq_true_eq] at h1
        exact h1.1.1.2
      · rw [step_idx h1 h2]
        exact Nat.zero_le _
    unfold stW at ih ⊢
    simp only [List.map_cons, List.sum_cons, List.length_cons]
    omega
theorem route_W {s : ByteArray} (h : routeOk false s = true) : stW ((partsR s).map stepOf) ≤ 20000 := by
  have h1 := stW_le (partsR s) (parts_ok h)
  have h2 : (partsR s).length ≤ 401 := by
    have hs : ¬ (400 : Int) < s.size := fun h2 => by rw [routeOk_long h2] at h; cases h
    by_cases h0 : s = ⟨#[]⟩
    · rw [(routeOk_nil (stars := false) h0).2]
      exact Nat.zero_le _
    · rw [(routeOk_all (stars := false) hs h0).2]
      have := pcs_len_le s
      omega
  omega
theorem setR_wt (v : Vu) (s : ByteArray) (x : Vu) : (setR v s x).1.wt ≤ v.wt + x.wt + 20000 := by
  have hz := zero_wt
  unfold setR
  split
  · show (Vu.zero).wt ≤ _; omega
  · split
    · show (Vu.zero).wt ≤ _; omega
    · split
      · show (Vu.zero).wt ≤ _; omega
      · rename_i h
        split
        · show (Vu.zero).wt ≤ _; omega
        · split
          · show (Vu.zero).wt ≤ _; omega
          · have h1 := route_W (s := s) (by simpa using h)
            have h2 := setS_wt ((partsR s).map stepOf) v x (steps_ok _)
            show (setS _ _ _).1.wt ≤ _
            omega
section
variable (E : Env)
set_option maxRecDepth 100000
end
end se
end Go.Proofs.YtjbgafbijamckaaGreatDoor
namespace Go.Proofs.YtjbgafbijamckaaGreatDoor
open Go.RowKit
set_option linter.unusedVariables false
set_option linter.unusedSimpArgs false
namespace ap
open cr se
/-- A change. -/
structure Chg where
  route : ByteArray
  value : Vu
  gone : Bool
instance : Inhabited Chg := ⟨⟨⟨#[]⟩, .zero, false⟩⟩
def Chg.cell (c : Chg) (j : Nat) : DD :=
  match j with
  | 0 => dS c.route
  | 1 => i64 c.value.kind
  | 2 => dB c.value.b
  | 3 => i64 c.value.i
  | 4 => dS c.value.text
  | 5 => .rc (.vals c.value.items)
  | 6 => encStrs c.value.keys
  | 7 => dB c.gone
  | _ => .opq
def encG (c : Chg) : DD := .agg [dS c.route, i64 c.value.kind, dB c.value.b, i64 c.value.i, dS c.value.text, .rc (.vals c.value.items), encStrs c.value.keys, dB c.gone]
def encGs (l : List Chg) : DD := .sl 8 112 l.length (fun i j => (l.getD i default).cell j)
def Chg.wt (c : Chg) : Nat := c.route.size + 1 + c.value.wt
/-- What is wrong with a change. -/
def chF (c : Chg) : Int :=
  if c.gone = true ∧ (c.value.kind ≠ 0 ∨ unusedP c.value) then 1 else if checkE c.value ≠ 0 then checkE c.value
  else if routeOk false c.route = false ∨ (c.gone = true ∧ c.route = ⟨#[]⟩) then 3 else 0
theorem route_nil {s : ByteArray} (h : routeOk false s = true) : ((partsR s).map stepOf).length = 0 ↔ s = ⟨#[]⟩ := by rw [List.length_map]; exact route_len h
section
variable (E : Env)
set_option maxRecDepth 100000
set_option maxHeartbeats 4000000 in
theorem changeFault_sp (hML : ∀ w, E.G w → ML w) (c : Chg) (hw : c.wt ≤ 100000000) : Sp (cx Tryz.prog mixed tyT_ok E) 21 [encG c] (i64 (chF c)) := by
  unfold Chg.wt at hw
  have hc := check_sp E c.value (by have := cnt_le_wt c.value; omega)
  have hst := steps_sp E hML c.route false (by omega)
  have hu := unused_sp E c.value
  have hn := @route_nil c.route
  obtain ⟨r, hr⟩ : ∃ r, r = chF c := ⟨_, rfl⟩
  rw [← hr]
  unfold chF at hr
  generalize checkE c.value = e at hc hr
  cases ho : routeOk false c.route
  · rw [ho] at hst hr hn
    refine Sp.body Tryz.func21 (by kernel_rfl) rfl (by kernel_rfl) (by kernel_rfl) (by kernel_rfl) ?_
    repeat' first
      | (refine codeW_cond rfl ?_; first | (refine condW_dec ?_ ?_ <;> intro _ <;> try (exfalso; omega)) | refine condW_not ?_ | (refine condW_bool ?_ ?_ <;> intro _ <;> try (exfalso; omega)))
      | (refine facW_intro ?_; intro _)
      | refine Or.inl ?_
      | ((conv => whnf); first | (refine condW_dec ?_ ?_ <;> intro _ <;> try (exfalso; omega)) | refine condW_not ?_ | (refine condW_bool ?_ ?_ <;> intro _ <;> try (exfalso; omega)) | (refine nbC_t (fun _ => ?_) ?_) | (refine nbC_f ?_ (fun _ => ?_)))
      | refine And.intro (by first | omega | (simp only [Int.toNat_natCast] at *; omega) | (simp only [Nat.reduceAdd, Int.cast_ofNat_Int, true_and, and_true]; omega)  | kernel_rfl) ?_
      | refine RegW.run ?_
      | refine ⟨_, hu, ?_⟩
      | refine ⟨_, hc, ?_⟩
      | refine ⟨_, hst, ?_⟩
      | fail
    all_goals first
      | exact Dle.i (by rw [hr]; grind)
      | (exfalso; grind)
      | trace_state
  · rw [ho, if_pos rfl] at hst
    rw [ho] at hr hn
    have hn := hn rfl
    refine Sp.body Tryz.func21 (by kernel_rfl) rfl (by kernel_rfl) (by kernel_rfl) (by kernel_rfl) ?_
    repeat' first
      | (refine codeW_cond rfl ?_; first | (refine condW_dec ?_ ?_ <;> intro _ <;> try (exfalso; omega)) | refine condW_not ?_ | (refine condW_bool ?_ ?_ <;> intro _ <;> try (exfalso; omega)))
      | (refine facW_intro ?_; intro _)
      | refine Or.inl ?_
      | ((conv => whnf); first | (refine condW_dec ?_ ?_ <;> intro _ <;> try (exfalso; omega)) | refine condW_not ?_ | (refine condW_bool ?_ ?_ <;> intro _ <;> try (exfalso; omega)) | (refine nbC_t (fun _ => ?_) ?_) | (refine nbC_f ?_ (fun _ => ?_)))
      | refine And.intro (by first | omega | (simp only [Int.toNat_natCast] at *; omega) | (simp only [Nat.reduceAdd, Int.cast_ofNat_Int, true_and, and_true]; omega)  | kernel_rfl) ?_
      | refine RegW.run ?_
      | refine ⟨_, hu, ?_⟩
      | refine ⟨_, hc, ?_⟩
      | refine ⟨_, hst, ?_⟩
      | fail
    all_goals first
      | exact Dle.i (by rw [hr]; grind)
      | (exfalso; grind)
      | trace_state
end
end ap
end Go.Proofs.YtjbgafbijamckaaGreatDoor
