/-
  What is put or taken away leaves no fault, plain.
-/
import Derived.Test.YtndlgoklgclmjaaDoorSe3
namespace Go.Proofs.YtndlgoklgclmjaaDoor
open Go.RowKit
set_option linter.unusedVariables false
set_option linter.unusedSimpArgs false
namespace ap
open cr se
theorem faultL_iff : ∀ l : List Vu, faultL l = 0 ↔ ∀ x ∈ l, faultE x = 0
  | [] => by simp [faultL]
  | x :: r => by
    have ih := faultL_iff r
    rw [faultL]
    by_cases h : faultE x = 0
    · rw [if_pos h, ih]
      simp [h]
    · rw [if_neg h]
      simp [h]
theorem keys_zero {l : List ByteArray} (h1 : ∀ i, i < l.length → keyOkB (l.getD i ⟨#[]⟩) = true) (h2 : Srt l) : ∀ n k, l.length - k < n → keysFrom l k = 0
  | 0, k, h => by omega
  | n + 1, k, h => by
    by_cases hk : k < l.length
    · have ih := keys_zero h1 h2 n (k + 1) (by omega)
      by_cases h0 : 0 < k
      · rw [keysFrom_next hk (h1 k hk), ih]
        have h3 := h2 (k - 1) k (by omega) hk
        rw [Bool.or_eq_false_iff]
        refine ⟨?_, ?_⟩
        · cases h4 : strLt (l.getD k ⟨#[]⟩) (l.getD (k - 1) ⟨#[]⟩) with
          | false => rfl
          | true =>
            have := strLt_trans h3 h4
            rw [strLt_irrefl] at this
            cases this
        · rw [decide_eq_false_iff_not]
          intro e
          rw [e, strLt_irrefl] at h3
          cases h3
      · rw [keysFrom_next0 hk (h1 k hk) h0, ih]
    · exact keysFrom_end hk
theorem bad0 : badStr ⟨#[]⟩ = false := by unfold badStr; rfl
theorem fault5 (l : List Vu) : faultE (.mk 5 false 0 ⟨#[]⟩ l []) = 0 ↔ ∀ x ∈ l, faultE x = 0 := by
  have hk : keysFrom [] 0 = 0 := keysFrom_end (by simp)
  have hh : headE (.mk 5 false 0 ⟨#[]⟩ l []) = 0 := by
    unfold headE
    simp [unusedP, Vu.kind, Vu.b, Vu.i, Vu.text, Vu.items, Vu.keys, bad0, hk, show (⟨#[]⟩ : ByteArray).size = 0 from rfl]
  rw [faultE_eq, if_pos hh]
  exact faultL_iff l
theorem fault6 (l : List Vu) (ks : List ByteArray) : faultE (.mk 6 false 0 ⟨#[]⟩ l ks) = 0 ↔ ks.length = l.length ∧ (∀ i, i < ks.length → keyOkB (ks.getD i ⟨#[]⟩) = true) ∧ Srt ks ∧ ∀ x ∈ l, faultE x = 0 := by
  constructor
  · intro h
    obtain ⟨h1, h2⟩ := fault_head h
    have h3 := (head_ok h1).2
    exact ⟨(fault_keys h).2 rfl, fun i hi => (keysFrom_ok (ks.length + 1) ks 0 (by omega) h3 i (Nat.zero_le _) hi).1, (fault_keys h).1, (faultL_iff l).1 h2⟩
  · rintro ⟨h1, h2, h3, h4⟩
    have hk : keysFrom ks 0 = 0 := keys_zero h2 h3 (ks.length + 1) 0 (by omega)
    have hh : headE (.mk 6 false 0 ⟨#[]⟩ l ks) = 0 := by
      unfold headE
      simp [unusedP, Vu.kind, Vu.b, Vu.i, Vu.text, Vu.items, Vu.keys, bad0, hk, h1, show (⟨#[]⟩ : ByteArray).size = 0 from rfl]
    rw [faultE_eq, if_pos hh]
    exact (faultL_iff l).2 h4
theorem form {v : Vu} (h : faultE v = 0) (hk : v.kind = 5 ∨ v.kind = 6) : v = .mk v.kind false 0 ⟨#[]⟩ v.items v.keys := by
  obtain ⟨c1, c2, c3, _⟩ := clean v h (by omega)
  cases v with
  | mk k b i t l ks =>
    simp only [Vu.b, Vu.i, Vu.text] at c1 c2 c3
    subst c1 c2 c3
    rfl
theorem form5 {v : Vu} (h : faultE v = 0) (hk : v.kind = 5) : v = .mk 5 false 0 ⟨#[]⟩ v.items [] := by
  have h1 := form h (.inl hk)
  rw [hk, (clean v h (by omega)).2.2.2 (by omega)] at h1
  exact h1
theorem form6 {v : Vu} (h : faultE v = 0) (hk : v.kind = 6) : v = .mk 6 false 0 ⟨#[]⟩ v.items v.keys := by
  have h1 := form h (.inr hk)
  rw [hk] at h1
  exact h1
theorem set_all {l : List Vu} {y : Vu} {m : Nat} (h : ∀ x ∈ l, faultE x = 0) (hy : faultE y = 0) : ∀ x ∈ l.set m y, faultE x = 0 := fun x hx => by
  rcases List.mem_or_eq_of_mem_set hx with h1 | h1
  · exact h x h1
  · exact h1 ▸ hy
theorem ins_all {l : List Vu} {y : Vu} {m : Nat} (h : ∀ x ∈ l, faultE x = 0) (hy : faultE y = 0) : ∀ x ∈ insL l m y, faultE x = 0 := fun x hx => by
  unfold insL at hx
  rw [List.mem_append, List.mem_cons] at hx
  rcases hx with h1 | rfl | h1
  · exact h x (List.mem_of_mem_take h1)
  · exact hy
  · exact h x (List.mem_of_mem_drop h1)
theorem put_fault {u y : Vu} {key : ByteArray} (hu : faultE u = 0) (h6 : u.kind = 6) (hy : faultE y = 0) (hk : keyOkB key = true) : faultE (putK u key y) = 0 := by
  have hu6 := hu
  rw [form6 hu h6] at hu6
  obtain ⟨h1, h2, h3, h4⟩ := (fault6 _ _).1 hu6
  have c := clean u hu (by omega)
  have hm := find_le u key
  cases hh : hasK u key with
  | true =>
    have hlt := has_lt hh
    rw [putK_yes0 u key y hh (by omega)]
    exact (fault6 _ _).2 ⟨by rw [List.length_set]; exact h1, h2, h3, set_all h4 hy⟩
  | false =>
    have e : putK u key y = .mk 6 false 0 ⟨#[]⟩ (insL u.items (findK u key) y) (insL u.keys (findK u key) key) := by
      unfold putK insL
      rw [hh]
      rfl
    rw [e]
    obtain ⟨b1, b2⟩ := bsr_spec (x := key) h3 (u.keys.length + 1) 0 u.keys.length (by omega) (by omega) (Nat.le_refl _) (fun k hk => by omega) (fun k hk hk2 => by omega)
    have e5 : findK u key = bsr u.keys key 0 u.keys.length := rfl
    rw [← e5] at b1 b2
    have ne : ∀ k, k < u.keys.length → u.keys.getD k ⟨#[]⟩ ≠ key := fun k hk e => by
      rw [(rs.find_at h3 hk e).2] at hh
      cases hh
    have hl := insL_len u.keys (findK u key) key hm
    refine (fault6 _ _).2 ⟨by rw [hl, insL_len _ _ _ (by omega)]; omega, fun i hi => ?_, fun i j hij hj => ?_, ins_all h4 hy⟩
    · rw [insL_at _ _ _ _ _ hm]
      split
      · exact h2 i (by omega)
      · split
        · exact hk
        · exact h2 (i - 1) (by omega)
    · rw [insL_at _ _ _ _ _ hm, insL_at _ _ _ _ _ hm]
      by_cases a : i < findK u key
      · rw [if_pos a]
        by_cases b : j < findK u key
        · rw [if_pos b]
          exact h3 i j hij (by omega)
        · rw [if_neg b]
          by_cases d : j = findK u key
          · rw [if_pos d]
            exact b1 i a
          · rw [if_neg d]
            exact h3 i (j - 1) (by omega) (by omega)
      · rw [if_neg a, if_neg (show ¬ j < findK u key by omega), if_neg (show ¬ j = findK u key by omega)]
        by_cases d : i = findK u key
        · rw [if_pos d]
          exact strLt_total (b2 (j - 1) (by omega) (by omega)) (ne (j - 1) (by omega))
        · rw [if_neg d]
          exact h3 (i - 1) (j - 1) (by omega) (by omega)
/-- Steps as routes have them. -/
def stOk (s : Stp) : Prop := s.ok ∧ (s.key ≠ ⟨#[]⟩ → keyOkB s.key = true)
theorem steps_fine {P : List ByteArray} (h : ∀ p ∈ P, partOk false p = true) : ∀ s ∈ P.map stepOf, stOk s := fun s hs => by
  refine ⟨steps_ok P s hs, fun hk => ?_⟩
  obtain ⟨p, hp, rfl⟩ := List.mem_map.1 hs
  rcases (part_cases (h p hp)).2 with ⟨h1, _⟩ | ⟨h1, h2, _⟩
  · have e : stepOf p = ⟨p, 0, false⟩ := by unfold stepOf; rw [if_pos h1]
    rw [e]
    exact h1
  · rw [step_idx h1 h2] at hk
    exact absurd rfl hk
theorem fol_fault {v : Vu} {s : Stp} (hs : s.ok) (hf : faultE v = 0) : faultE ((followS v s).getD .zero) = 0 := by
  cases h : followS v s with
  | none => exact fault_empty 0 (.inl rfl)
  | some x => exact (follow_mem hs hf h).1
theorem setS_fault : ∀ (L : List Stp) (v x : Vu), (∀ s ∈ L, stOk s) → faultE v = 0 → faultE x = 0 → faultE (setS L v x).1 = 0
  | [], v, x, _, _, hx => hx
  | s :: r, v, x, hs, hv, hx => by
    have hz : faultE Vu.zero = 0 := fault_empty 0 (.inl rfl)
    have hs0 := hs s List.mem_cons_self
    have hu := asK_fault v s hv
    unfold setS
    split
    · exact hz
    · rename_i h1
      have h1 := Classical.not_not.1 h1
      split
      · exact hz
      · split
        · exact hz
        · have ih := setS_fault r ((followS (asK v (kindS s)) s).getD .zero) x (fun q hq => hs q (List.mem_cons_of_mem _ hq)) (fol_fault hs0.1 hu) hx
          show faultE (putAt _ _ _) = 0
          generalize (setS r ((followS (asK v (kindS s)) s).getD .zero) x).1 = y at ih
          generalize asK v (kindS s) = u at *
          unfold kindS at h1
          unfold putAt
          by_cases hk : s.key = ⟨#[]⟩
          · rw [if_pos hk] at h1
            rw [if_pos hk]
            have h5 := hu
            rw [form5 hu h1] at h5
            have h5 := (fault5 _).1 h5
            refine (fault5 _).2 ?_
            split
            · intro q hq
              rw [List.mem_append, List.mem_singleton] at hq
              rcases hq with hq | rfl
              · exact h5 q hq
              · exact ih
            · exact set_all h5 ih
          · rw [if_neg hk] at h1
            rw [if_neg hk]
            exact put_fault hu h1 ih (hs0.2 hk)
theorem erase_all {l : List Vu} {m : Nat} (h : ∀ x ∈ l, faultE x = 0) : ∀ x ∈ l.eraseIdx m, faultE x = 0 := fun x hx => h x (List.mem_of_mem_eraseIdx hx)
theorem remS_fault : ∀ (L : List Stp) (v y : Vu), (∀ s ∈ L, s.ok) → faultE v = 0 → remS L v = some y → faultE y = 0
  | [], v, y, _, _, h => by simp [remS] at h
  | [s], v, y, hs, hv, h => by
    have hs0 := hs s List.mem_cons_self
    unfold remS at h
    split at h
    · cases h
    · rename_i x hx
      injection h with h
      subst h
      obtain ⟨p1, p2, p3, p4⟩ := pos_at hs0 hv hx
      unfold remAt
      by_cases hk : s.key = ⟨#[]⟩
      · have h5 := p3 hk
        have e := form5 hv h5
        have hv5 := hv
        rw [e] at hv5
        have hv5 := (fault5 _).1 hv5
        obtain ⟨c1, c2, c3, c4⟩ := clean v hv (by omega)
        rw [if_neg (by omega), c1, c2, c3, c4 (by omega), h5]
        exact (fault5 _).2 (erase_all hv5)
      · obtain ⟨h6, p5, p6⟩ := p4 hk
        have hv6 := hv
        rw [form6 hv h6] at hv6
        obtain ⟨h1, h2, h3, h4⟩ := (fault6 _ _).1 hv6
        obtain ⟨c1, c2, c3, c4⟩ := clean v hv (by omega)
        rw [if_pos h6, c1, c2, c3, h6]
        have l1 := erase_len v.keys (posS v s) p5
        have l2 := erase_len v.items (posS v s) p1
        refine (fault6 _ _).2 ⟨by omega, fun i hi => ?_, fun i j hij hj => ?_, erase_all h4⟩
        · rw [erase_at]
          split
          · exact h2 i (by omega)
          · exact h2 (i + 1) (by omega)
        · rw [erase_at, erase_at]
          by_cases a : j < posS v s
          · rw [if_pos (show i < posS v s by omega), if_pos a]
            exact h3 i j hij (by omega)
          · rw [if_neg a]
            split
            · exact h3 i (j + 1) (by omega) (by omega)
            · exact h3 (i + 1) (j + 1) (by omega) (by omega)
  | s :: t :: r, v, y, hs, hv, h => by
    have hs0 := hs s List.mem_cons_self
    unfold remS at h
    split at h
    · cases h
    · rename_i x hx
      split at h
      · cases h
      · rename_i z hz
        injection h with h
        subst h
        obtain ⟨p1, p2, p3, p4⟩ := pos_at hs0 hv hx
        have ih := remS_fault (t :: r) x z (fun q hq => hs q (List.mem_cons_of_mem _ hq)) (follow_mem hs0 hv hx).1 hz
        unfold setAt
        by_cases hk : s.key = ⟨#[]⟩
        · have h5 := p3 hk
          have hv5 := hv
          rw [form5 hv h5] at hv5
          have hv5 := (fault5 _).1 hv5
          obtain ⟨c1, c2, c3, c4⟩ := clean v hv (by omega)
          rw [c1, c2, c3, c4 (by omega), h5]
          exact (fault5 _).2 (set_all hv5 ih)
        · obtain ⟨h6, p5, p6⟩ := p4 hk
          have hv6 := hv
          rw [form6 hv h6] at hv6
          obtain ⟨h1, h2, h3, h4⟩ := (fault6 _ _).1 hv6
          obtain ⟨c1, c2, c3, c4⟩ := clean v hv (by omega)
          rw [c1, c2, c3, h6]
          exact (fault6 _ _).2 ⟨by rw [List.length_set]; exact h1, h2, h3, set_all h4 ih⟩
end ap
end Go.Proofs.YtndlgoklgclmjaaDoor
