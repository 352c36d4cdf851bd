/-
  What is put or taken away leaves no fault, plain. slices.Sort of an own row of names that is lent, over any program. The table of a map's entries, plain.
-/
import Derived.Test.YtgdoelfajfjopaaGreatDoorSe3
import Derived.Test.YtgdoelfajfjopaaGreatDoorN18
import Derived.Sort.OwnSorted
namespace Go.Proofs.YtgdoelfajfjopaaGreatDoor
open Go.RowKit
set_option linter.unusedVariables false
set_option linter.unusedSimpArgs false
namespace ap
open cr se
theorem faultL_iff : ∀ l : List Vu, faultL l = 0 ↔ ∀ x ∈ l, faultE x = 0
  | [] => by simp [faultL]
  | x :: r => by
    have ih := faultL_iff r
    rw [faultL]
    by_cases h : faultE x = 0
    · rw [if_pos h, ih]
      simp [h]
    · rw [if_neg h]
      simp [h]
theorem keys_zero {l : List ByteArray} (h1 : ∀ i, i < l.length → keyOkB (l.getD i ⟨#[]⟩) = true) (h2 : Srt l) : ∀ n k, l.length - k < n → keysFrom l k = 0
  | 0, k, h => by omega
  | n + 1, k, h => by
    by_cases hk : k < l.length
    · have ih := keys_zero h1 h2 n (k + 1) (by omega)
      by_cases h0 : 0 < k
      · rw [keysFrom_next hk (h1 k hk), ih]
        have h3 := h2 (k - 1) k (by omega) hk
        rw [Bool.or_eq_false_iff]
        refine ⟨?_, ?_⟩
        · cases h4 : strLt (l.getD k ⟨#[]⟩) (l.getD (k - 1) ⟨#[]⟩) with
          | false => rfl
          | true =>
            have := strLt_trans h3 h4
            rw [strLt_irrefl] at this
            cases this
        · rw [decide_eq_false_iff_not]
          intro e
          rw [e, strLt_irrefl] at h3
          cases h3
      · rw [keysFrom_next0 hk (h1 k hk) h0, ih]
    · exact keysFrom_end hk
theorem bad0 : badStr ⟨#[]⟩ = false := by unfold badStr; rfl
theorem fault5 (l : List Vu) : faultE (.mk 5 false 0 ⟨#[]⟩ l []) = 0 ↔ ∀ x ∈ l, faultE x = 0 := by
  have hk : keysFrom [] 0 = 0 := keysFrom_end (by simp)
  have hh : headE (.mk 5 false 0 ⟨#[]⟩ l []) = 0 := by
    unfold headE
    simp [unusedP, Vu.kind, Vu.b, Vu.i, Vu.text, Vu.items, Vu.keys, bad0, hk, show (⟨#[]⟩ : ByteArray).size = 0 from rfl]
  rw [faultE_eq, if_pos hh]
  exact faultL_iff l
theorem fault6 (l : List Vu) (ks : List ByteArray) : faultE (.mk 6 false 0 ⟨#[]⟩ l ks) = 0 ↔ ks.length = l.length ∧ (∀ i, i < ks.length → keyOkB (ks.getD i ⟨#[]⟩) = true) ∧ Srt ks ∧ ∀ x ∈ l, faultE x = 0 := by
  constructor
  · intro h
    obtain ⟨h1, h2⟩ := fault_head h
    have h3 := (head_ok h1).2
    exact ⟨(fault_keys h).2 rfl, fun i hi => (keysFrom_ok (ks.length + 1) ks 0 (by omega) h3 i (Nat.zero_le _) hi).1, (fault_keys h).1, (faultL_iff l).1 h2⟩
  · rintro ⟨h1, h2, h3, h4⟩
    have hk : keysFrom ks 0 = 0 := keys_zero h2 h3 (ks.length + 1) 0 (by omega)
    have hh : headE (.mk 6 false 0 ⟨#[]⟩ l ks) = 0 := by
      unfold headE
      simp [unusedP, Vu.kind, Vu.b, Vu.i, Vu.text, Vu.items, Vu.keys, bad0, hk, h1, show (⟨#[]⟩ : ByteArray).size = 0 from rfl]
    rw [faultE_eq, if_pos hh]
    exact (faultL_iff l).2 h4
theorem form {v : Vu} (h : faultE v = 0) (hk : v.kind = 5 ∨ v.kind = 6) : v = .mk v.kind false 0 ⟨#[]⟩ v.items v.keys := by
  obtain ⟨c1, c2, c3, _⟩ := clean v h (by omega)
  cases v with
  | mk k b i t l ks =>
    simp only [Vu.b, Vu.i, Vu.text] at c1 c2 c3
    subst c1 c2 c3
    rfl
theorem form5 {v : Vu} (h : faultE v = 0) (hk : v.kind = 5) : v = .mk 5 false 0 ⟨#[]⟩ v.items [] := by
  have h1 := form h (.inl hk)
  rw [hk, (clean v h (by omega)).2.2.2 (by omega)] at h1
  exact h1
theorem form6 {v : Vu} (h : faultE v = 0) (hk : v.kind = 6) : v = .mk 6 false 0 ⟨#[]⟩ v.items v.keys := by
  have h1 := form h (.inr hk)
  rw [hk] at h1
  exact h1
theorem set_all {l : List Vu} {y : Vu} {m : Nat} (h : ∀ x ∈ l, faultE x = 0) (hy : faultE y = 0) : ∀ x ∈ l.set m y, faultE x = 0 := fun x hx => by
  rcases List.mem_or_eq_of_mem_set hx with h1 | h1
  · exact h x h1
  · exact h1 ▸ hy
theorem ins_all {l : List Vu} {y : Vu} {m : Nat} (h : ∀ x ∈ l, faultE x = 0) (hy : faultE y = 0) : ∀ x ∈ insL l m y, faultE x = 0 := fun x hx => by
  unfold insL at hx
  rw [List.mem_append, List.mem_cons] at hx
  rcases hx with h1 | rfl | h1
  · exact h x (List.mem_of_mem_take h1)
  · exact hy
  · exact h x (List.mem_of_mem_drop h1)
theorem put_fault {u y : Vu} {key : ByteArray} (hu : faultE u = 0) (h6 : u.kind = 6) (hy : faultE y = 0) (hk : keyOkB key = true) : faultE (putK u key y) = 0 := by
  have hu6 := hu
  rw [form6 hu h6] at hu6
  obtain ⟨h1, h2, h3, h4⟩ := (fault6 _ _).1 hu6
  have c := clean u hu (by omega)
  have hm := find_le u key
  cases hh : hasK u key with
  | true =>
    have hlt := has_lt hh
    rw [putK_yes0 u key y hh (by omega)]
    exact (fault6 _ _).2 ⟨by rw [List.length_set]; exact h1, h2, h3, set_all h4 hy⟩
  | false =>
    have e : putK u key y = .mk 6 false 0 ⟨#[]⟩ (insL u.items (findK u key) y) (insL u.keys (findK u key) key) := by
      unfold putK insL
      rw [hh]
      rfl
    rw [e]
    obtain ⟨b1, b2⟩ := bsr_spec (x := key) h3 (u.keys.length + 1) 0 u.keys.length (by omega) (by omega) (Nat.le_refl _) (fun k hk => by omega) (fun k hk hk2 => by omega)
    have e5 : findK u key = bsr u.keys key 0 u.keys.length := rfl
    rw [← e5] at b1 b2
    have ne : ∀ k, k < u.keys.length → u.keys.getD k ⟨#[]⟩ ≠ key := fun k hk e => by
      rw [(rs.find_at h3 hk e).2] at hh
      cases hh
    have hl := insL_len u.keys (findK u key) key hm
    refine (fault6 _ _).2 ⟨by rw [hl, insL_len _ _ _ (by omega)]; omega, fun i hi => ?_, fun i j hij hj => ?_, ins_all h4 hy⟩
    · rw [insL_at _ _ _ _ _ hm]
      split
      · exact h2 i (by omega)
      · split
        · exact hk
        · exact h2 (i - 1) (by omega)
    · rw [insL_at _ _ _ _ _ hm, insL_at _ _ _ _ _ hm]
      by_cases a : i < findK u key
      · rw [if_pos a]
        by_cases b : j < findK u key
        · rw [if_pos b]
          exact h3 i j hij (by omega)
        · rw [if_neg b]
          by_cases d : j = findK u key
          · rw [if_pos d]
            exact b1 i a
          · rw [if_neg d]
            exact h3 i (j - 1) (by omega) (by omega)
      · rw [if_neg a, if_neg (show ¬ j < findK u key by omega), if_neg (show ¬ j = findK u key by omega)]
        by_cases d : i = findK u key
        · rw [if_pos d]
          exact strLt_total (b2 (j - 1) (by omega) (by omega)) (ne (j - 1) (by omega))
        · rw [if_neg d]
          exact h3 (i - 1) (j - 1) (by omega) (by omega)
/-- Steps as routes have them. -/
def stOk (s : Stp) : Prop := s.ok ∧ (s.key ≠ ⟨#[]⟩ → keyOkB s.key = true)
theorem steps_fine {P : List ByteArray} (h : ∀ p ∈ P, partOk false p = true) : ∀ s ∈ P.map stepOf, stOk s := fun s hs => by
  refine ⟨steps_ok P s hs, fun hk => ?_⟩
  obtain ⟨p, hp, rfl⟩ := List.mem_map.1 hs
  rcases (part_cases (h p hp)).2 with ⟨h1, _⟩ | ⟨h1, h2, _⟩
  · have e : stepOf p = ⟨p, 0, false⟩ := by unfold stepOf; rw [if_pos h1]
    rw [e]
    exact h1
  · rw [step_idx h1 h2] at hk
    exact absurd rfl hk
theorem fol_fault {v : Vu} {s : Stp} (hs : s.ok) (hf : faultE v = 0) : faultE ((followS v s).getD .zero) = 0 := by
  cases h : followS v s with
  | none => exact fault_empty 0 (.inl rfl)
  | some x => exact (follow_mem hs hf h).1
theorem setS_fault : ∀ (L : List Stp) (v x : Vu), (∀ s ∈ L, stOk s) → faultE v = 0 → faultE x = 0 → faultE (setS L v x).1 = 0
  | [], v, x, _, _, hx => hx
  | s :: r, v, x, hs, hv, hx => by
    have hz : faultE Vu.zero = 0 := fault_empty 0 (.inl rfl)
    have hs0 := hs s List.mem_cons_self
    have hu := asK_fault v s hv
    unfold setS
    split
    · exact hz
    · rename_i h1
      have h1 := Classical.not_not.1 h1
      split
      · exact hz
      · split
        · exact hz
        · have ih := setS_fault r ((followS (asK v (kindS s)) s).getD .zero) x (fun q hq => hs q (List.mem_cons_of_mem _ hq)) (fol_fault hs0.1 hu) hx
          show faultE (putAt _ _ _) = 0
          generalize (setS r ((followS (asK v (kindS s)) s).getD .zero) x).1 = y at ih
          generalize asK v (kindS s) = u at *
          unfold kindS at h1
          unfold putAt
          by_cases hk : s.key = ⟨#[]⟩
          · rw [if_pos hk] at h1
            rw [if_pos hk]
            have h5 := hu
            rw [form5 hu h1] at h5
            have h5 := (fault5 _).1 h5
            refine (fault5 _).2 ?_
            split
            · intro q hq
              rw [List.mem_append, List.mem_singleton] at hq
              rcases hq with hq | rfl
              · exact h5 q hq
              · exact ih
            · exact set_all h5 ih
          · rw [if_neg hk] at h1
            rw [if_neg hk]
            exact put_fault hu h1 ih (hs0.2 hk)
theorem erase_all {l : List Vu} {m : Nat} (h : ∀ x ∈ l, faultE x = 0) : ∀ x ∈ l.eraseIdx m, faultE x = 0 := fun x hx => h x (List.mem_of_mem_eraseIdx hx)
theorem remS_fault : ∀ (L : List Stp) (v y : Vu), (∀ s ∈ L, s.ok) → faultE v = 0 → remS L v = some y → faultE y = 0
  | [], v, y, _, _, h => by simp [remS] at h
  | [s], v, y, hs, hv, h => by
    have hs0 := hs s List.mem_cons_self
    unfold remS at h
    split at h
    · cases h
    · rename_i x hx
      injection h with h
      subst h
      obtain ⟨p1, p2, p3, p4⟩ := pos_at hs0 hv hx
      unfold remAt
      by_cases hk : s.key = ⟨#[]⟩
      · have h5 := p3 hk
        have e := form5 hv h5
        have hv5 := hv
        rw [e] at hv5
        have hv5 := (fault5 _).1 hv5
        obtain ⟨c1, c2, c3, c4⟩ := clean v hv (by omega)
        rw [if_neg (by omega), c1, c2, c3, c4 (by omega), h5]
        exact (fault5 _).2 (erase_all hv5)
      · obtain ⟨h6, p5, p6⟩ := p4 hk
        have hv6 := hv
        rw [form6 hv h6] at hv6
        obtain ⟨h1, h2, h3, h4⟩ := (fault6 _ _).1 hv6
        obtain ⟨c1, c2, c3, c4⟩ := clean v hv (by omega)
        rw [if_pos h6, c1, c2, c3, h6]
        have l1 := erase_len v.keys (posS v s) p5
        have l2 := erase_len v.items (posS v s) p1
        refine (fault6 _ _).2 ⟨by omega, fun i hi => ?_, fun i j hij hj => ?_, erase_all h4⟩
        · rw [erase_at]
          split
          · exact h2 i (by omega)
          · exact h2 (i + 1) (by omega)
        · rw [erase_at, erase_at]
          by_cases a : j < posS v s
          · rw [if_pos (show i < posS v s by omega), if_pos a]
            exact h3 i j hij (by omega)
          · rw [if_neg a]
            split
            · exact h3 i (j + 1) (by omega) (by omega)
            · exact h3 (i + 1) (j + 1) (by omega) (by omega)
  | s :: t :: r, v, y, hs, hv, h => by
    have hs0 := hs s List.mem_cons_self
    unfold remS at h
    split at h
    · cases h
    · rename_i x hx
      split at h
      · cases h
      · rename_i z hz
        injection h with h
        subst h
        obtain ⟨p1, p2, p3, p4⟩ := pos_at hs0 hv hx
        have ih := remS_fault (t :: r) x z (fun q hq => hs q (List.mem_cons_of_mem _ hq)) (follow_mem hs0 hv hx).1 hz
        unfold setAt
        by_cases hk : s.key = ⟨#[]⟩
        · have h5 := p3 hk
          have hv5 := hv
          rw [form5 hv h5] at hv5
          have hv5 := (fault5 _).1 hv5
          obtain ⟨c1, c2, c3, c4⟩ := clean v hv (by omega)
          rw [c1, c2, c3, c4 (by omega), h5]
          exact (fault5 _).2 (set_all hv5 ih)
        · obtain ⟨h6, p5, p6⟩ := p4 hk
          have hv6 := hv
          rw [form6 hv h6] at hv6
          obtain ⟨h1, h2, h3, h4⟩ := (fault6 _ _).1 hv6
          obtain ⟨c1, c2, c3, c4⟩ := clean v hv (by omega)
          rw [c1, c2, c3, h6]
          exact (fault6 _ _).2 ⟨by rw [List.length_set]; exact h1, h2, h3, set_all h4 ih⟩
end ap
end Go.Proofs.YtgdoelfajfjopaaGreatDoor
namespace Go.Proofs.YtgdoelfajfjopaaGreatDoor
open Go.RowKit Go.Sort Go.ChangeShapes Go.WideShapes
set_option linter.unusedVariables false
set_option linter.unusedSimpArgs false
namespace so
/-- Names in order. -/
def sortB (l : List ByteArray) : List ByteArray := ((l.map fun s => s.data.toList).mergeSort fun x y => decide (x ≤ y)).map fun x => ⟨x.toArray⟩
theorem sortB_len (l : List ByteArray) : (sortB l).length = l.length := by unfold sortB; rw [List.length_map, List.length_mergeSort, List.length_map]
theorem encStr_eq (s : ByteArray) : encStr s.data.toList = .string s := by
  cases s
  simp [encStr]
theorem sortB_enc (l : List ByteArray) : (((l.map fun s => s.data.toList).mergeSort fun x y => decide (x ≤ y)).map encStr) = (sortB l).map .string := by
  unfold sortB
  rw [List.map_map]
  rfl
section
variable {κ : Type} {X : Cx κ}
theorem SpH.sort {f : FuncId} {e : Nat} (hs : (X.T e).size = 1) (hE : Ent X.P f) (l : List ByteArray) (hln : l.length < 4611686018427387904) (hsz : ∀ s ∈ l, s.size ≤ maxLen)
    (hc : ∀ (b c : Nat) (ss : List (List UInt8)) (w : World), Holds encStr w b 0 ss.toArray → b < w.heap.size → ss.length < 4611686018427387904 → Calls X.P f #[.slice (some ⟨b, 0, none⟩) ss.length c] w fun e' w' => e' = .returned (.tuple #[]) ∧ ∃ n os, w' = grow (putRow encStr (Sort.ahead w n) b 0 (ss.mergeSort fun x y => decide (x ≤ y)).toArray) os)
    (hn : ∀ w, Calls X.P f #[.slice none 0 0] w fun e' w' => e' = .returned (.tuple #[]) ∧ w' = w) :
    SpH X f [.own 2000 1 0 l.length] [(2000, .row e l.length (fun i _ => .v (.string (l.getD i ⟨#[]⟩))))] (.tup []) [(2000, .row e l.length (fun i _ => .v (.string ((sortB l).getD i ⟨#[]⟩))))] := by
  refine ⟨hE, fun M β w vs hG hMG hM hl hrr hH hb => ?_⟩
  have h0 := hrr 0 _ rfl
  obtain ⟨hk, ho⟩ := (hH.ob 2000 _ (List.mem_singleton.2 rfl)).2
  have evs : ∀ x, vs.getD 0 undef = x → vs = #[x] := fun x e0 => by
    have hl : vs.size = 1 := hl
    apply Array.ext
    · simpa using hl
    · intro k q1 q2
      obtain rfl : k = 0 := by omega
      simpa [Array.getD, q1] using e0
  have tupR : Rep X.V M w β (.tup []) (.tuple #[]) := .tup rfl (fun i d hd => by simp at hd)
  rcases ho with ⟨hβ, hn0⟩ | ⟨b, c, arr, hβ, hA, hsza, hnc, hcm, hby, hcell, hvis⟩
  · have e0 : vs.getD 0 undef = .slice none 0 0 := by
      generalize vs.getD 0 undef = x at h0
      generalize hN : l.length = m at h0
      cases h0 with
      | own h _ _ => rw [hβ] at h; cases h
      | ownE ho _ _ => exact absurd ho (Nat.lt_irrefl _)
      | ownNil h => rfl
    rw [evs _ e0]
    refine (hn w).mono ?_
    rintro e' w' ⟨rfl, rfl⟩
    refine ⟨_, M, β, rfl, Kp.refl _ _ _, fun _ _ _ => rfl, fun _ _ h => h, fun _ _ h => .inl h, tupR, ⟨fun k o hm => ?_, fun k o k' o' b1 c1 c2 hm hm' q1 q2 => ?_⟩, fun b' ⟨k, o, c', hm, hβ'⟩ => ?_⟩
    · obtain ⟨rfl, rfl⟩ := Prod.mk.inj (List.mem_singleton.1 hm)
      exact ⟨rfl, hk, .inl ⟨hβ, hn0⟩⟩
    · obtain ⟨rfl, rfl⟩ := Prod.mk.inj (List.mem_singleton.1 hm)
      obtain ⟨rfl, rfl⟩ := Prod.mk.inj (List.mem_singleton.1 hm')
      rfl
    · obtain ⟨rfl, rfl⟩ := Prod.mk.inj (List.mem_singleton.1 hm)
      rw [hβ] at hβ'
      cases hβ'
  · have e0 : vs.getD 0 undef = .slice (some ⟨b, 0, none⟩) l.length c := by
      generalize vs.getD 0 undef = x at h0
      generalize hN : l.length = m at h0
      cases h0 with
      | own h _ _ =>
        rw [hβ] at h
        injection h with h
        injection h with h
        injection h with h1 h2
        subst h1 h2
        simp
      | ownE ho _ _ => exact absurd ho (Nat.lt_irrefl _)
      | ownNil h => rw [hβ] at h; cases h
    rw [evs _ e0]
    have hlt : b < w.heap.size := (Array.getElem?_eq_some_iff.1 hA).1
    rw [hs] at hsza
    have hval : ∀ i, i < l.length → arr.getD i undef = .string (l.getD i ⟨#[]⟩) := fun i hi => by
      have := (hcell i 0 hi (by omega)).2
      rw [hs] at this
      have := this.val.1
      simpa using this
    have hcur : arr.toList.take (l.map fun s => s.data.toList).length = (l.map fun s => s.data.toList).map encStr := by
      rw [List.length_map, List.map_map]
      apply List.ext_getElem?
      intro i
      by_cases hi : i < l.length
      · have h2 := hval i hi
        have hia : i < arr.size := by omega
        rw [List.getElem?_take_of_lt hi, Array.getElem?_toList, Array.getElem?_eq_getElem hia, List.getElem?_map, List.getElem?_eq_getElem hi]
        have h3 : arr.getD i undef = arr[i] := by simp [Array.getD, hia]
        rw [h3, List.getD_eq_getElem?_getD, List.getElem?_eq_getElem hi] at h2
        rw [h2]
        simp [encStr_eq]
      · rw [List.getElem?_take_eq_none (by omega), List.getElem?_eq_none (by simp; omega)]
    have hcl := hc b c (l.map fun s => s.data.toList) w (holds_of_block hA hcur) hlt (by rw [List.length_map]; exact hln)
    rw [List.length_map] at hcl
    refine hcl.mono ?_
    rintro e' w' ⟨rfl, nn, os, rfl⟩
    have hg := grownBy_sorted (w := w) (g := b) (n := nn) (os := os) ((l.map fun s => s.data.toList).mergeSort fun x y => decide (x ≤ y)).toArray
    have hS := heap_sorted (n := nn) (os := os) ((l.map fun s => s.data.toList).mergeSort fun x y => decide (x ≤ y)).toArray hA
    generalize grow (putRow encStr (Sort.ahead w nn) b 0 ((l.map fun s => s.data.toList).mergeSort fun x y => decide (x ≤ y)).toArray) os = w2 at hg hS
    have htk := take_putCells arr ((l.map fun s => s.data.toList).mergeSort fun x y => decide (x ≤ y)) (by rw [List.length_mergeSort, List.length_map]; omega)
    have hps : (putCells encStr 0 ((l.map fun s => s.data.toList).mergeSort fun x y => decide (x ≤ y)).toArray arr).size = arr.size := by simp [putCells]
    rw [sortB_enc, List.length_mergeSort, List.length_map] at htk
    generalize putCells encStr 0 ((l.map fun s => s.data.toList).mergeSort fun x y => decide (x ≤ y)).toArray arr = arr2 at hS htk hps
    have hv2 : ∀ i, i < l.length → arr2.getD i undef = .string ((sortB l).getD i ⟨#[]⟩) := fun i hi => by
      have h1 : (arr2.toList.take l.length)[i]? = ((sortB l).map Value.string)[i]? := by rw [htk]
      have hia : i < arr2.size := by omega
      have hib : i < (sortB l).length := by rw [sortB_len]; exact hi
      rw [List.getElem?_take_of_lt hi, Array.getElem?_toList, Array.getElem?_eq_getElem hia, List.getElem?_map, List.getElem?_eq_getElem hib] at h1
      have h3 : arr2.getD i undef = arr2[i] := by simp [Array.getD, hia]
      rw [h3, List.getD_eq_getElem?_getD, List.getElem?_eq_getElem hib]
      injection h1
    have hszs : ∀ s ∈ sortB l, s.size ≤ maxLen := fun s hs => by
      unfold sortB at hs
      obtain ⟨x, hx, rfl⟩ := List.mem_map.1 hs
      obtain ⟨y, hy, rfl⟩ := List.mem_map.1 ((List.mergeSort_perm _ _).mem_iff.1 hx)
      exact hsz y hy
    have hone : ∀ (n' : Nat) (F' : Nat → Nat → D κ) b', blocks β [(2000, (.row e n' F' : Ob κ))] b' ↔ b' = b := fun n' F' b' => by
      constructor
      · rintro ⟨k, o, c', hm, hβ'⟩
        obtain ⟨rfl, _⟩ := Prod.mk.inj (List.mem_singleton.1 hm)
        rw [hβ] at hβ'
        injection hβ' with hβ'
        injection hβ' with hβ'
        injection hβ' with hβ' _
        exact hβ'.symm
      · rintro rfl
        exact ⟨2000, _, c, List.mem_singleton.2 rfl, hβ⟩
    refine ⟨_, M, β, rfl, ⟨hg.os, hg.tape, hg.output, hg.size, fun k hk hs => hg.block k hk (fun h => hs ((hone _ _ k).2 (by cases h; rfl)))⟩, fun _ _ _ => rfl, fun _ _ h => h, fun _ _ h => .inl h, .tup rfl (fun i d hd => by simp at hd), ⟨fun k o hm => ?_, fun k o k' o' b1 c1 c2 hm hm' q1 q2 => ?_⟩, fun b' hb' => .inl ((hone _ _ b').2 ((hone _ _ b').1 hb'))⟩
    · obtain ⟨rfl, rfl⟩ := Prod.mk.inj (List.mem_singleton.1 hm)
      refine ⟨rfl, hk, .inr ⟨b, c, arr2, hβ, hS, by rw [hs, hps]; exact hsza, hnc, hcm, hby, fun i j hi hj => ?_, hvis⟩⟩
      rw [hs] at hj ⊢
      obtain rfl : j = 0 := by omega
      rw [Nat.mul_one, Nat.add_zero, hv2 i hi]
      refine ⟨rfl, .v (decide_eq_true (hszs _ ?_))⟩
      have hib : i < (sortB l).length := by rw [sortB_len]; exact hi
      rw [List.getD_eq_getElem?_getD, List.getElem?_eq_getElem hib]
      exact List.getElem_mem hib
    · obtain ⟨rfl, rfl⟩ := Prod.mk.inj (List.mem_singleton.1 hm)
      obtain ⟨rfl, rfl⟩ := Prod.mk.inj (List.mem_singleton.1 hm')
      rfl
end
end so
end Go.Proofs.YtgdoelfajfjopaaGreatDoor
namespace Go.Proofs.YtgdoelfajfjopaaGreatDoor
open Go.RowKit
set_option linter.unusedVariables false
set_option linter.unusedSimpArgs false
namespace tab
open cr se ap so
def kAt (pm : List (ByteArray × Vu)) (i : Nat) : ByteArray := (pm.getD i (⟨#[]⟩, .zero)).1
def vAt (pm : List (ByteArray × Vu)) (i : Nat) : Vu := (pm.getD i (⟨#[]⟩, .zero)).2
/-- Entries as a map's content. -/
def esOf (pm : List (ByteArray × Vu)) : List (Value × DD) := pm.map fun p => (.string p.1, encV p.2)
theorem es_len (pm : List (ByteArray × Vu)) : (esOf pm).length = pm.length := List.length_map ..
theorem es_at {pm : List (ByteArray × Vu)} {i : Nat} {p : Value × DD} (h : (esOf pm)[i]? = some p) : i < pm.length ∧ p = (.string (kAt pm i), encV (vAt pm i)) := by
  unfold esOf at h
  rw [List.getElem?_map] at h
  cases hp : pm[i]? with
  | none => rw [hp] at h; cases h
  | some q =>
    rw [hp] at h
    injection h with h
    have e : pm.getD i (⟨#[]⟩, .zero) = q := by rw [List.getD_eq_getElem?_getD, hp]; rfl
    refine ⟨(List.getElem?_eq_some_iff.1 hp).1, ?_⟩
    unfold kAt vAt
    rw [e]
    exact h.symm
/-- T is the table of the entries pm. -/
structure TabOf (T : Vu) (pm : List (ByteArray × Vu)) : Prop where
  form : T = .mk 6 false 0 ⟨#[]⟩ T.items T.keys
  len : T.keys.length = T.items.length
  srt : Srt T.keys
  has : ∀ i, i < T.keys.length → (T.keys.getD i ⟨#[]⟩, T.items.getD i .zero) ∈ pm
  all : ∀ p ∈ pm, p.1 ∈ T.keys
  nd : (pm.map (·.1)).Nodup
theorem sort_mem (l : List ByteArray) (x : ByteArray) : x ∈ sortB l ↔ x ∈ l := by
  unfold sortB
  constructor
  · intro h
    obtain ⟨y, hy, rfl⟩ := List.mem_map.1 h
    obtain ⟨z, hz, rfl⟩ := List.mem_map.1 ((List.mergeSort_perm _ _).mem_iff.1 hy)
    exact hz
  · intro h
    exact List.mem_map.2 ⟨x.data.toList, (List.mergeSort_perm _ _).mem_iff.2 (List.mem_map.2 ⟨x, h, rfl⟩), rfl⟩
theorem sort_srt {l : List ByteArray} (hn : l.Nodup) : Srt (sortB l) := by
  have hp := List.pairwise_mergeSort (le := fun x y : List UInt8 => decide (x ≤ y)) (fun a b c h g => decide_eq_true (List.le_trans (of_decide_eq_true h) (of_decide_eq_true g))) (fun a b => by
    rw [Bool.or_eq_true]
    exact (List.le_total a b).imp decide_eq_true decide_eq_true) (l.map fun s => s.data.toList)
  have hnd : ((l.map fun s => s.data.toList).mergeSort fun x y => decide (x ≤ y)).Nodup := by
    rw [(List.mergeSort_perm _ _).nodup_iff]
    refine List.Pairwise.map _ (fun a b hab e => hab ?_) hn
    cases a with | mk a => cases b with | mk b =>
      exact congrArg _ (Array.toList_inj.1 e)
  intro i j hij hj
  unfold sortB at hj ⊢
  generalize ((l.map fun s => s.data.toList).mergeSort fun x y => decide (x ≤ y)) = m at hp hnd hj ⊢
  rw [List.length_map] at hj
  have hi : i < m.length := by omega
  have e1 : (m.map fun x => (⟨x.toArray⟩ : ByteArray)).getD i ⟨#[]⟩ = ⟨m[i].toArray⟩ := by simp [List.getD, hi]
  have e2 : (m.map fun x => (⟨x.toArray⟩ : ByteArray)).getD j ⟨#[]⟩ = ⟨m[j].toArray⟩ := by simp [List.getD, hj]
  rw [e1, e2, strLt_iff, ByteArray.toList_eq, ByteArray.toList_eq]
  show m[i] < m[j]
  have h1 : m[i] ≤ m[j] := of_decide_eq_true (List.pairwise_iff_getElem.1 hp i j hi hj hij)
  have h2 : m[i] ≠ m[j] := List.pairwise_iff_getElem.1 hnd i j hi hj hij
  rcases List.le_iff_lt_or_eq.1 h1 with h | h
  · exact h
  · exact absurd h h2
theorem srt_tail {x : ByteArray} {a : List ByteArray} (h : Srt (x :: a)) : Srt a := fun i j hij hj => by
  have := h (i + 1) (j + 1) (by omega) (by simpa using hj)
  simpa using this
theorem srt_head {x : ByteArray} {a : List ByteArray} (h : Srt (x :: a)) {y : ByteArray} (hy : y ∈ a) : strLt x y = true := by
  obtain ⟨k, hk, rfl⟩ := List.getElem_of_mem hy
  have := h 0 (k + 1) (by omega) (by simpa using hk)
  simpa [List.getD, hk] using this
theorem srt_ext : ∀ a b : List ByteArray, Srt a → Srt b → (∀ x, x ∈ a ↔ x ∈ b) → a = b
  | [], [], _, _, _ => rfl
  | [], y :: b, _, _, h => by have := (h y).2 List.mem_cons_self; cases this
  | x :: a, [], _, _, h => by have := (h x).1 List.mem_cons_self; cases this
  | x :: a, y :: b, ha, hb, h => by
    have hxy : x = y := by
      refine Classical.byContradiction fun hne => ?_
      have h1 : strLt y x = true := by
        rcases List.mem_cons.1 ((h x).1 List.mem_cons_self) with e | hm
        · exact absurd e hne
        · exact srt_head hb hm
      have h2 : strLt x y = true := by
        rcases List.mem_cons.1 ((h y).2 List.mem_cons_self) with e | hm
        · exact absurd e.symm hne
        · exact srt_head ha hm
      have := strLt_trans h1 h2
      rw [strLt_irrefl] at this
      cases this
    subst hxy
    rw [srt_ext a b (srt_tail ha) (srt_tail hb) (fun z => ?_)]
    constructor
    · intro hz
      rcases List.mem_cons.1 ((h z).1 (List.mem_cons_of_mem _ hz)) with e | hm
      · have := srt_head ha hz
        rw [e, strLt_irrefl] at this
        cases this
      · exact hm
    · intro hz
      rcases List.mem_cons.1 ((h z).2 (List.mem_cons_of_mem _ hz)) with e | hm
      · have := srt_head hb hz
        rw [e, strLt_irrefl] at this
        cases this
      · exact hm
theorem getD_in {α : Type} {l : List α} {d x : α} (h : x ∈ l) : ∃ i, i < l.length ∧ l.getD i d = x := by
  obtain ⟨k, hk, rfl⟩ := List.getElem_of_mem h
  exact ⟨k, hk, by simp [List.getD, hk]⟩
theorem TabOf.mem {T : Vu} {pm : List (ByteArray × Vu)} (h : TabOf T pm) (x : ByteArray) : x ∈ T.keys ↔ x ∈ pm.map (·.1) := by
  constructor
  · intro hx
    obtain ⟨i, hi, rfl⟩ := getD_in (d := (⟨#[]⟩ : ByteArray)) hx
    exact List.mem_map.2 ⟨_, h.has i hi, rfl⟩
  · intro hx
    obtain ⟨p, hp, rfl⟩ := List.mem_map.1 hx
    exact h.all p hp
theorem TabOf.sorted {T : Vu} {pm : List (ByteArray × Vu)} (h : TabOf T pm) {ks : List ByteArray} (hn : ks.Nodup) (hm : ∀ x, x ∈ ks ↔ x ∈ pm.map (·.1)) : sortB ks = T.keys :=
  srt_ext _ _ (sort_srt hn) h.srt (fun x => (sort_mem ks x).trans ((hm x).trans (h.mem x).symm))
/-- The keys in the order in which they came. -/
def ksOf (pm : List (ByteArray × Vu)) (sn : List Nat) : List ByteArray := sn.reverse.map (kAt pm)
theorem ks_len (pm : List (ByteArray × Vu)) (sn : List Nat) : (ksOf pm sn).length = sn.length := by unfold ksOf; rw [List.length_map, List.length_reverse]
theorem ks_step (pm : List (ByteArray × Vu)) (sn : List Nat) (i : Nat) : ksOf pm (i :: sn) = ksOf pm sn ++ [kAt pm i] := by unfold ksOf; rw [List.reverse_cons, List.map_append]; rfl
theorem ks_at (pm : List (ByteArray × Vu)) (sn : List Nat) (i j : Nat) : (ksOf pm (i :: sn)).getD j ⟨#[]⟩ = if j < sn.length then (ksOf pm sn).getD j ⟨#[]⟩ else ([kAt pm i] : List ByteArray).getD (j - sn.length) ⟨#[]⟩ := by
  rw [ks_step, List.getD_eq_getElem?_getD, List.getD_eq_getElem?_getD, List.getD_eq_getElem?_getD]
  by_cases h : j < sn.length
  · rw [if_pos h, List.getElem?_append_left (by rw [ks_len]; exact h)]
  · rw [if_neg h, List.getElem?_append_right (by rw [ks_len]; omega), ks_len]
theorem nodup_lt {l : List Nat} {n : Nat} (h : l.Nodup) (hl : ∀ x ∈ l, x < n) : l.length ≤ n := by
  have := List.Nodup.length_le_of_subset h (l₂ := List.range n) (fun x hx => List.mem_range.2 (hl x hx))
  simpa using this
theorem kAt_map (pm : List (ByteArray × Vu)) {i : Nat} (hi : i < pm.length) : (pm.map (·.1))[i]? = some (kAt pm i) := by
  rw [List.getElem?_map]
  unfold kAt
  rw [List.getD_eq_getElem?_getD, List.getElem?_eq_getElem hi]
  rfl
theorem kAt_inj {pm : List (ByteArray × Vu)} (hn : (pm.map (·.1)).Nodup) {i j : Nat} (hi : i < pm.length) (hj : j < pm.length) (h : kAt pm i = kAt pm j) : i = j := by
  have h1 := kAt_map pm hi
  have h2 := kAt_map pm hj
  obtain ⟨a1, a2⟩ := List.getElem?_eq_some_iff.1 h1
  obtain ⟨b1, b2⟩ := List.getElem?_eq_some_iff.1 h2
  rcases Nat.lt_trichotomy i j with g | g | g
  · exact absurd (a2.trans (h.trans b2.symm)) (List.pairwise_iff_getElem.1 hn i j a1 b1 g)
  · exact g
  · exact absurd (b2.trans (h.symm.trans a2.symm)) (List.pairwise_iff_getElem.1 hn j i b1 a1 g)
theorem ks_all {pm : List (ByteArray × Vu)} (hn : (pm.map (·.1)).Nodup) {sn : List Nat} (h1 : sn.Nodup) (h2 : ∀ x ∈ sn, x < pm.length) (h3 : ∀ i, i < pm.length → i ∈ sn) : (ksOf pm sn).Nodup ∧ (∀ x, x ∈ ksOf pm sn ↔ x ∈ pm.map (·.1)) ∧ sn.length = pm.length := by
  refine ⟨?_, fun x => ?_, ?_⟩
  · unfold ksOf
    refine List.pairwise_map.2 ?_
    have hr : sn.reverse.Nodup := (List.reverse_perm sn).nodup_iff.2 h1
    exact List.Pairwise.imp_of_mem (fun {a b} ha hb (hab : a ≠ b) e => hab (kAt_inj hn (h2 a (by simpa using ha)) (h2 b (by simpa using hb)) e)) hr
  · unfold ksOf
    constructor
    · intro h
      obtain ⟨i, hi, rfl⟩ := List.mem_map.1 h
      exact List.mem_of_getElem? (kAt_map pm (h2 i (by simpa using hi)))
    · intro h
      obtain ⟨k, hk, rfl⟩ := List.getElem_of_mem h
      have hk2 : k < pm.length := by simpa using hk
      refine List.mem_map.2 ⟨k, by simpa using h3 k hk2, ?_⟩
      have := kAt_map pm hk2
      rw [List.getElem?_eq_getElem hk] at this
      injection this with this
      exact this.symm
  · have a1 := nodup_lt h1 h2
    have a2 := List.Nodup.length_le_of_subset (List.nodup_range (n := pm.length)) (l₂ := sn) (fun x hx => h3 x (List.mem_range.1 hx))
    rw [List.length_range] at a2
    omega
theorem TabOf.size {T : Vu} {pm : List (ByteArray × Vu)} (h : TabOf T pm) {sn : List Nat} (h1 : sn.Nodup) (h2 : ∀ x ∈ sn, x < pm.length) (h3 : ∀ i, i < pm.length → i ∈ sn) : sn.length = T.keys.length := by
  obtain ⟨a1, a2, a3⟩ := ks_all h.nd h1 h2 h3
  rw [← h.sorted a1 a2, sortB_len, ks_len]
end tab
end Go.Proofs.YtgdoelfajfjopaaGreatDoor
