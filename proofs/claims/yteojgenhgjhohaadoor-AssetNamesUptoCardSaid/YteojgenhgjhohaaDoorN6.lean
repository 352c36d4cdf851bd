/-
  Rows of cells that are filled part by part, over any program: on data, and in memory.
-/
import Derived.Test.YteojgenhgjhohaaDoorN4
import Derived.Laws.Tables
namespace Go.Proofs.YteojgenhgjhohaaDoor
open Go.RowKit
set_option linter.unusedVariables false
set_option linter.unusedSimpArgs false

section
variable {κ : Type} {X : Cx κ} {M : Nat → Nat → Prop} {w : World} {β : Bt}

theorem setCells_len : ∀ (ds cs : List (D κ)) (o : Nat), (setCells cs o ds).length = cs.length
  | [], _, _ => rfl
  | d :: r, cs, o => by rw [setCells, setCells_len r]; simp
theorem setCells_get : ∀ (ds cs : List (D κ)) (o i : Nat), o + ds.length ≤ cs.length → (setCells cs o ds)[i]? = if o ≤ i ∧ i < o + ds.length then ds[i - o]? else cs[i]?
  | [], cs, o, i, _ => by
    rw [setCells, if_neg (by simp only [List.length_nil]; omega)]
  | d :: r, cs, o, i, h => by
    simp only [List.length_cons] at h
    rw [setCells, setCells_get r _ (o + 1) i (by simp; omega)]
    by_cases h1 : o + 1 ≤ i ∧ i < o + 1 + r.length
    · rw [if_pos h1, if_pos (by simp only [List.length_cons]; omega)]
      obtain ⟨k, hk⟩ : ∃ k, i - o = k + 1 := ⟨i - o - 1, by omega⟩
      rw [hk, List.getElem?_cons_succ]
      congr 1
      omega
    · rw [if_neg h1]
      by_cases h2 : i = o
      · subst h2
        rw [if_pos (by simp only [List.length_cons]; omega), Nat.sub_self, List.getElem?_cons_zero, List.getElem?_set_self (by omega)]
      · rw [if_neg (by simp only [List.length_cons]; omega), List.getElem?_set_ne (by omega)]

theorem fold_size : ∀ (vs : List Value) (k off : Nat) (arr : Array Value), ((vs.zipIdx k).foldl (fun cs (x : Value × Nat) => cs.setIfInBounds (off + x.2) x.1) arr).size = arr.size
  | [], _, _, _ => rfl
  | v :: r, k, off, arr => by rw [List.zipIdx_cons, List.foldl_cons, fold_size r]; simp
theorem fold_get : ∀ (vs : List Value) (k off i : Nat) (arr : Array Value), off + k + vs.length ≤ arr.size →
    ((vs.zipIdx k).foldl (fun cs (x : Value × Nat) => cs.setIfInBounds (off + x.2) x.1) arr)[i]? = if off + k ≤ i ∧ i < off + k + vs.length then vs[i - (off + k)]? else arr[i]?
  | [], k, off, i, arr, _ => by rw [if_neg (by simp only [List.length_nil]; omega)]; rfl
  | v :: r, k, off, i, arr, h => by
    simp only [List.length_cons] at h
    rw [List.zipIdx_cons, List.foldl_cons, fold_get r (k + 1) off i _ (by simp; omega)]
    by_cases h1 : off + (k + 1) ≤ i ∧ i < off + (k + 1) + r.length
    · rw [if_pos h1, if_pos (by simp only [List.length_cons]; omega)]
      obtain ⟨j, hj⟩ : ∃ j, i - (off + k) = j + 1 := ⟨i - (off + k) - 1, by omega⟩
      rw [hj, List.getElem?_cons_succ]
      congr 1
      omega
    · rw [if_neg h1]
      by_cases h2 : i = off + k
      · subst h2
        rw [if_pos (by simp only [List.length_cons]; omega), Nat.sub_self, List.getElem?_cons_zero, Array.getElem?_setIfInBounds_self_of_lt (by omega)]
      · rw [if_neg (by simp only [List.length_cons]; omega), Array.getElem?_setIfInBounds_ne (by omega)]

theorem getD_some {arr : Array Value} {i : Nat} {v : Value} (h : arr[i]? = some v) : arr.getD i undef = v := by
  obtain ⟨h1, h2⟩ := Array.getElem?_eq_some_iff.1 h
  simp [Array.getD, h1, h2]

theorem RepC.lay {cs ds : List (D κ)} {arr vs arr' : Array Value} {off : Nat} (h : RepC X.V M w β cs arr) (hd : RepC X.V M w β ds vs) (hl : off + ds.length ≤ cs.length) (hs : arr'.size = arr.size)
    (hg : ∀ i, arr'[i]? = if off ≤ i ∧ i < off + vs.size then vs[i - off]? else arr[i]?) : RepC X.V M w β (setCells cs off ds) arr' := by
  have hv : ∀ i, i < cs.length → arr'.getD i undef = if off ≤ i ∧ i < off + ds.length then vs.getD (i - off) undef else arr.getD i undef := by
    intro i hi
    have h1 := hg i
    rw [hd.n] at h1
    by_cases hin : off ≤ i ∧ i < off + ds.length
    · rw [if_pos hin] at h1 ⊢
      have h2 : i - off < vs.size := by have := hd.n; omega
      rw [Array.getElem?_eq_getElem h2] at h1
      rw [getD_some h1]
      simp [Array.getD, h2]
    · rw [if_neg hin] at h1 ⊢
      have h2 : i < arr.size := by have := h.n; omega
      rw [Array.getElem?_eq_getElem h2] at h1
      rw [getD_some h1]
      simp [Array.getD, h2]
  refine ⟨by rw [hs, setCells_len]; exact h.n, ?_, ?_⟩
  · intro i hi
    rw [setCells_len] at hi
    rw [hv i hi]
    by_cases hin : off ≤ i ∧ i < off + ds.length
    · rw [if_pos hin]; exact hd.o _ (by omega)
    · rw [if_neg hin]; exact h.o i hi
  · intro i d hi
    have hi2 : i < cs.length := by
      have := (List.getElem?_eq_some_iff.1 hi).1
      rwa [setCells_len] at this
    rw [setCells_get _ _ _ _ hl] at hi
    rw [hv i hi2]
    by_cases hin : off ≤ i ∧ i < off + ds.length
    · rw [if_pos hin] at hi ⊢; exact hd.r _ _ hi
    · rw [if_neg hin] at hi ⊢; exact h.r i d hi

theorem cells_rep {d : D κ} {x : Value} (hg : d.good = true) (h : Rep X.V M w β d x) : RepC X.V M w β d.cells x.cells := by
  have one : ∀ (d : D κ) (x : Value), x.oneCell' = true → Rep X.V M w β d x → RepC X.V M w β [d] x.cells := by
    intro d x hx hr
    have hc : x.cells = #[x] := by cases x <;> first | rfl | cases hx
    rw [hc]
    refine ⟨rfl, fun i hi => ?_, fun i d' hi => ?_⟩
    · obtain rfl : i = 0 := by simpa using hi
      exact hx
    · match i, hi with
      | 0, hi =>
        simp only [List.getElem?_cons_zero, Option.some.injEq] at hi
        subst hi
        exact hr
  have sl1 : ∀ (sz by_ n : Nat) (f : Nat → Nat → D κ) (x : Value), Rep X.V M w β (.sl sz by_ n f) x → x.oneCell' = true := by
    intro sz by_ n f x hr
    obtain ⟨A, c, rfl, _⟩ := hr.slice
    rfl
  cases d with
  | v y =>
    obtain ⟨rfl, ho⟩ := h.val
    exact one _ _ (okB_one ho) h
  | agg cs =>
    cases h with
    | agg hn h1 hd => exact ⟨hn, h1, hd⟩
  | sl sz b n f => exact one _ _ (sl1 _ _ _ _ _ h) h
  | rc k =>
    cases h with
    | rc h' => exact one _ _ (sl1 _ _ _ _ _ h') (.rc h')
  | fn f cs =>
    cases h with
    | fn hn hd => exact one _ _ rfl (.fn hn hd)
  | ptr l o =>
    have h' := h
    cases h with
    | ptr _ => exact one _ _ rfl h'
  | elt l s k j =>
    have h' := h
    cases h with
    | elt _ => exact one _ _ rfl h'
  | own l s o n =>
    obtain ⟨A, c, rfl, _⟩ := h.ownSlice
    exact one _ _ rfl h
  | ifc t d =>
    have h' := h
    cases h with
    | ifc _ => exact one _ _ rfl h'
  | mp l =>
    have h' := h
    cases h with
    | mp _ => exact one _ _ rfl h'
  | ifo t l s n =>
    have h' := h
    cases h with
    | ifo _ => exact one _ _ rfl h'
  | mfn f fs =>
    have h' := h
    cases h with
    | mfn _ _ => exact one _ _ rfl h'
  | _ => cases hg

theorem zero_rep {t : TypeId} (hk : (X.T t).k ≠ .other) : RepC X.V M w β ((X.T t).zero.cells.toList.map .v) (X.T t).zero.cells := by
  obtain ⟨h0, h1, h2, _⟩ := X.info hk
  have hall : ∀ i, i < (X.T t).zero.cells.size → okB ((X.T t).zero.cells.getD i undef) = true := by
    intro i hi
    have := List.all_eq_true.1 h2 ((X.T t).zero.cells[i]) (by simp)
    simpa [Array.getD, hi] using this
  refine ⟨by simp, fun i hi => okB_one (hall i (by simpa using hi)), fun i d hd => ?_⟩
  rw [List.getElem?_map] at hd
  obtain ⟨v, hv, rfl⟩ := Option.map_eq_some_iff.1 hd
  have hv' : (X.T t).zero.cells[i]? = some v := by simpa using hv
  rw [getD_some hv']
  have hi := (Array.getElem?_eq_some_iff.1 hv').1
  have := hall i hi
  rw [getD_some hv'] at this
  exact .v this

def fillW (pl : Nat → Option (Nat × Nat)) : List (Nat × D κ) → List (D κ) → (List (D κ) → Prop) → Prop
  | [], cs, K => fL cs K
  | p :: r, cs, K => fD p.2 fun d => match pl p.1 with
    | some q => condW (d.good && Nat.beq d.cells.length q.2 && Nat.ble (q.1 + q.2) cs.length) (fillW pl r (setCells cs q.1 d.cells) K) False
    | none => False

theorem fill_run {pl place : Nat → Option (Nat × Nat)} (hpl : ∀ i p, pl i = some p → place i = some p) {ev : Operand → D κ} {ρ : Operand → Value} (hev : ∀ x, Rep X.V M w β (ev x) (ρ x)) :
    ∀ (parts : List (Nat × Operand)) (cs : List (D κ)) (arr : Array Value) (K : List (D κ) → Prop), RepC X.V M w β cs arr → fillW pl (parts.map fun p => (p.1, ev p.2)) cs K →
      ∃ arr' cs', Instr.fill place arr (parts.map fun p => (p.1, ρ p.2)) = some arr' ∧ RepC X.V M w β cs' arr' ∧ cs'.length = cs.length ∧ K cs'
  | [], cs, arr, K, hr, h => by
    simp only [List.map_nil, fillW, fL_eq] at h
    exact ⟨arr, cs, rfl, hr, rfl, h⟩
  | p :: r, cs, arr, K, hr, h => by
    simp only [List.map_cons, fillW, fD_eq] at h
    split at h
    · rename_i q hq
      obtain ⟨hc, h⟩ := condW_no h
      simp only [Bool.and_eq_true] at hc
      obtain ⟨⟨hg, hn⟩, hle⟩ := hc
      have hn := Nat.eq_of_beq_eq_true hn
      have hle := Nat.le_of_ble_eq_true hle
      have hcr := cells_rep hg (hev p.2)
      have hsz : (ρ p.2).cells.size = q.2 := by rw [hcr.n, hn]
      have hsz2 : arr.size = cs.length := hr.n
      have hnew : RepC X.V M w β (setCells cs q.1 (ev p.2).cells) ((ρ p.2).cells.zipIdx.foldl (fun cs (x : Value × Nat) => cs.setIfInBounds (q.1 + x.2) x.1) arr) := by
        have e : (ρ p.2).cells.zipIdx.foldl (fun cs (x : Value × Nat) => cs.setIfInBounds (q.1 + x.2) x.1) arr = ((ρ p.2).cells.toList.zipIdx 0).foldl (fun cs (x : Value × Nat) => cs.setIfInBounds (q.1 + x.2) x.1) arr := by
          rw [← Array.foldl_toList]
          simp
        rw [e]
        refine hr.lay hcr (by omega) (fold_size _ _ _ _) (fun i => ?_)
        have := fold_get (ρ p.2).cells.toList 0 q.1 i arr (by simp; omega)
        simpa using this
      obtain ⟨arr', cs', h1, h2, h3, h4⟩ := fill_run hpl hev r _ _ K hnew h
      refine ⟨arr', cs', ?_, h2, by rw [h3, setCells_len], h4⟩
      simp only [List.map_cons, Instr.fill, hpl _ _ hq]
      have : ¬ ((ρ p.2).cells.size ≠ q.2 ∨ q.1 + (ρ p.2).cells.size > arr.size) := by omega
      rw [← h1]
      have hb : (decide ((ρ p.2).cells.size ≠ q.2) || decide (q.1 + (ρ p.2).cells.size > arr.size)) = false := by
        rw [Bool.or_eq_false_iff]
        exact ⟨decide_eq_false (by omega), decide_eq_false (by omega)⟩
      simp [hb, hsz]
      omega
    · exact h.elim
end
end Go.Proofs.YteojgenhgjhohaaDoor
