/-
  slices.Sort of an own row of names that is lent, over any program. The table of a map's entries, plain.
-/
import Derived.Test.YtocehfhhmljejaaGreatDoorN18
import Derived.Sort.OwnSorted
import Derived.Test.YtocehfhhmljejaaGreatDoorAp0
namespace Go.Proofs.YtocehfhhmljejaaGreatDoor
open Go.RowKit Go.Sort Go.ChangeShapes Go.WideShapes
set_option linter.unusedVariables false
set_option linter.unusedSimpArgs false
namespace so
def sortB (l : List ByteArray) : List ByteArray := ((l.map fun s => s.data.toList).mergeSort fun x y => decide (x ≤ y)).map fun x => ⟨x.toArray⟩
theorem sortB_len (l : List ByteArray) : (sortB l).length = l.length := by unfold sortB; rw [List.length_map, List.length_mergeSort, List.length_map]
theorem encStr_eq (s : ByteArray) : encStr s.data.toList = .string s := by
  cases s
  simp [encStr]
theorem sortB_enc (l : List ByteArray) : (((l.map fun s => s.data.toList).mergeSort fun x y => decide (x ≤ y)).map encStr) = (sortB l).map .string := by
  unfold sortB
  rw [List.map_map]
  rfl
section
variable {κ : Type} {X : Cx κ}
theorem SpH.sort {f : FuncId} {e : Nat} (hs : (X.T e).size = 1) (hE : Ent X.P f) (l : List ByteArray) (hln : l.length < 4611686018427387904) (hsz : ∀ s ∈ l, s.size ≤ maxLen)
    (hc : ∀ (b c : Nat) (ss : List (List UInt8)) (w : World), Holds encStr w b 0 ss.toArray → b < w.heap.size → ss.length < 4611686018427387904 → Calls X.P f #[.slice (some ⟨b, 0, none⟩) ss.length c] w fun e' w' => e' = .returned (.tuple #[]) ∧ ∃ n os, w' = grow (putRow encStr (Sort.ahead w n) b 0 (ss.mergeSort fun x y => decide (x ≤ y)).toArray) os)
    (hn : ∀ w, Calls X.P f #[.slice none 0 0] w fun e' w' => e' = .returned (.tuple #[]) ∧ w' = w) :
    SpH X f [.own 2000 1 0 l.length] [(2000, .row e l.length (fun i _ => .v (.string (l.getD i ⟨#[]⟩))))] (.tup []) [(2000, .row e l.length (fun i _ => .v (.string ((sortB l).getD i ⟨#[]⟩))))] := by
  refine ⟨hE, fun M β w vs hG hMG hM hl hrr hH hb => ?_⟩
  have h0 := hrr 0 _ rfl
  obtain ⟨hk, ho⟩ := (hH.ob 2000 _ (List.mem_singleton.2 rfl)).2
  have evs : ∀ x, vs.getD 0 undef = x → vs = #[x] := fun x e0 => by
    have hl : vs.size = 1 := hl
    apply Array.ext
    · simpa using hl
    · intro k q1 q2
      obtain rfl : k = 0 := by omega
      simpa [Array.getD, q1] using e0
  have tupR : Rep X.V M w β (.tup []) (.tuple #[]) := .tup rfl (fun i d hd => by simp at hd)
  rcases ho with ⟨hβ, hn0⟩ | ⟨b, c, arr, hβ, hA, hsza, hnc, hcm, hby, hcell, hvis⟩
  · have e0 : vs.getD 0 undef = .slice none 0 0 := by
      generalize vs.getD 0 undef = x at h0
      generalize hN : l.length = m at h0
      cases h0 with
      | own h _ _ => rw [hβ] at h; cases h
      | ownE ho _ _ => exact absurd ho (Nat.lt_irrefl _)
      | ownNil h => rfl
    rw [evs _ e0]
    refine (hn w).mono ?_
    rintro e' w' ⟨rfl, rfl⟩
    refine ⟨_, M, β, rfl, Kp.refl _ _ _, fun _ _ _ => rfl, fun _ _ h => h, fun _ _ h => .inl h, tupR, ⟨fun k o hm => ?_, fun k o k' o' b1 c1 c2 hm hm' q1 q2 => ?_⟩, fun b' ⟨k, o, c', hm, hβ'⟩ => ?_⟩
    · obtain ⟨rfl, rfl⟩ := Prod.mk.inj (List.mem_singleton.1 hm)
      exact ⟨rfl, hk, .inl ⟨hβ, hn0⟩⟩
    · obtain ⟨rfl, rfl⟩ := Prod.mk.inj (List.mem_singleton.1 hm)
      obtain ⟨rfl, rfl⟩ := Prod.mk.inj (List.mem_singleton.1 hm')
      rfl
    · obtain ⟨rfl, rfl⟩ := Prod.mk.inj (List.mem_singleton.1 hm)
      rw [hβ] at hβ'
      cases hβ'
  · have e0 : vs.getD 0 undef = .slice (some ⟨b, 0, none⟩) l.length c := by
      generalize vs.getD 0 undef = x at h0
      generalize hN : l.length = m at h0
      cases h0 with
      | own h _ _ =>
        rw [hβ] at h
        injection h with h
        injection h with h
        injection h with h1 h2
        subst h1 h2
        simp
      | ownE ho _ _ => exact absurd ho (Nat.lt_irrefl _)
      | ownNil h => rw [hβ] at h; cases h
    rw [evs _ e0]
    have hlt : b < w.heap.size := (Array.getElem?_eq_some_iff.1 hA).1
    rw [hs] at hsza
    have hval : ∀ i, i < l.length → arr.getD i undef = .string (l.getD i ⟨#[]⟩) := fun i hi => by
      have := (hcell i 0 hi (by omega)).2
      rw [hs] at this
      have := this.val.1
      simpa using this
    have hcur : arr.toList.take (l.map fun s => s.data.toList).length = (l.map fun s => s.data.toList).map encStr := by
      rw [List.length_map, List.map_map]
      apply List.ext_getElem?
      intro i
      by_cases hi : i < l.length
      · have h2 := hval i hi
        have hia : i < arr.size := by omega
        rw [List.getElem?_take_of_lt hi, Array.getElem?_toList, Array.getElem?_eq_getElem hia, List.getElem?_map, List.getElem?_eq_getElem hi]
        have h3 : arr.getD i undef = arr[i] := by simp [Array.getD, hia]
        rw [h3, List.getD_eq_getElem?_getD, List.getElem?_eq_getElem hi] at h2
        rw [h2]
        simp [encStr_eq]
      · rw [List.getElem?_take_eq_none (by omega), List.getElem?_eq_none (by simp; omega)]
    have hcl := hc b c (l.map fun s => s.data.toList) w (holds_of_block hA hcur) hlt (by rw [List.length_map]; exact hln)
    rw [List.length_map] at hcl
    refine hcl.mono ?_
    rintro e' w' ⟨rfl, nn, os, rfl⟩
    have hg := grownBy_sorted (w := w) (g := b) (n := nn) (os := os) ((l.map fun s => s.data.toList).mergeSort fun x y => decide (x ≤ y)).toArray
    have hS := heap_sorted (n := nn) (os := os) ((l.map fun s => s.data.toList).mergeSort fun x y => decide (x ≤ y)).toArray hA
    generalize grow (putRow encStr (Sort.ahead w nn) b 0 ((l.map fun s => s.data.toList).mergeSort fun x y => decide (x ≤ y)).toArray) os = w2 at hg hS
    have htk := take_putCells arr ((l.map fun s => s.data.toList).mergeSort fun x y => decide (x ≤ y)) (by rw [List.length_mergeSort, List.length_map]; omega)
    have hps : (putCells encStr 0 ((l.map fun s => s.data.toList).mergeSort fun x y => decide (x ≤ y)).toArray arr).size = arr.size := by simp [putCells]
    rw [sortB_enc, List.length_mergeSort, List.length_map] at htk
    generalize putCells encStr 0 ((l.map fun s => s.data.toList).mergeSort fun x y => decide (x ≤ y)).toArray arr = arr2 at hS htk hps
    have hv2 : ∀ i, i < l.length → arr2.getD i undef = .string ((sortB l).getD i ⟨#[]⟩) := fun i hi => by
      have h1 : (arr2.toList.take l.length)[i]? = ((sortB l).map Value.string)[i]? := by rw [htk]
      have hia : i < arr2.size := by omega
      have hib : i < (sortB l).length := by rw [sortB_len]; exact hi
      rw [List.getElem?_take_of_lt hi, Array.getElem?_toList, Array.getElem?_eq_getElem hia, List.getElem?_map, List.getElem?_eq_getElem hib] at h1
      have h3 : arr2.getD i undef = arr2[i] := by simp [Array.getD, hia]
      rw [h3, List.getD_eq_getElem?_getD, List.getElem?_eq_getElem hib]
      injection h1
    have hszs : ∀ s ∈ sortB l, s.size ≤ maxLen := fun s hs => by
      unfold sortB at hs
      obtain ⟨x, hx, rfl⟩ := List.mem_map.1 hs
      obtain ⟨y, hy, rfl⟩ := List.mem_map.1 ((List.mergeSort_perm _ _).mem_iff.1 hx)
      exact hsz y hy
    have hone : ∀ (n' : Nat) (F' : Nat → Nat → D κ) b', blocks β [(2000, (.row e n' F' : Ob κ))] b' ↔ b' = b := fun n' F' b' => by
      constructor
      · rintro ⟨k, o, c', hm, hβ'⟩
        obtain ⟨rfl, _⟩ := Prod.mk.inj (List.mem_singleton.1 hm)
        rw [hβ] at hβ'
        injection hβ' with hβ'
        injection hβ' with hβ'
        injection hβ' with hβ' _
        exact hβ'.symm
      · rintro rfl
        exact ⟨2000, _, c, List.mem_singleton.2 rfl, hβ⟩
    refine ⟨_, M, β, rfl, ⟨hg.os, hg.tape, hg.output, hg.size, fun k hk hs => hg.block k hk (fun h => hs ((hone _ _ k).2 (by cases h; rfl)))⟩, fun _ _ _ => rfl, fun _ _ h => h, fun _ _ h => .inl h, .tup rfl (fun i d hd => by simp at hd), ⟨fun k o hm => ?_, fun k o k' o' b1 c1 c2 hm hm' q1 q2 => ?_⟩, fun b' hb' => .inl ((hone _ _ b').2 ((hone _ _ b').1 hb'))⟩
    · obtain ⟨rfl, rfl⟩ := Prod.mk.inj (List.mem_singleton.1 hm)
      refine ⟨rfl, hk, .inr ⟨b, c, arr2, hβ, hS, by rw [hs, hps]; exact hsza, hnc, hcm, hby, fun i j hi hj => ?_, hvis⟩⟩
      rw [hs] at hj ⊢
      obtain rfl : j = 0 := by omega
      rw [Nat.mul_one, Nat.add_zero, hv2 i hi]
      refine ⟨rfl, .v (decide_eq_true (hszs _ ?_))⟩
      have hib : i < (sortB l).length := by rw [sortB_len]; exact hi
      rw [List.getD_eq_getElem?_getD, List.getElem?_eq_getElem hib]
      exact List.getElem_mem hib
    · obtain ⟨rfl, rfl⟩ := Prod.mk.inj (List.mem_singleton.1 hm)
      obtain ⟨rfl, rfl⟩ := Prod.mk.inj (List.mem_singleton.1 hm')
      rfl
end
end so
end Go.Proofs.YtocehfhhmljejaaGreatDoor
namespace Go.Proofs.YtocehfhhmljejaaGreatDoor
open Go.RowKit
set_option linter.unusedVariables false
set_option linter.unusedSimpArgs false
namespace tab
open cr se ap so
def kAt (pm : List (ByteArray × Vu)) (i : Nat) : ByteArray := (pm.getD i (⟨#[]⟩, .zero)).1
structure TabOf (T : Vu) (pm : List (ByteArray × Vu)) : Prop where
  form : T = .mk 6 false 0 ⟨#[]⟩ T.items T.keys
  len : T.keys.length = T.items.length
  srt : Srt T.keys
  has : ∀ i, i < T.keys.length → (T.keys.getD i ⟨#[]⟩, T.items.getD i .zero) ∈ pm
  all : ∀ p ∈ pm, p.1 ∈ T.keys
  nd : (pm.map (·.1)).Nodup
theorem sort_mem (l : List ByteArray) (x : ByteArray) : x ∈ sortB l ↔ x ∈ l := by
  unfold sortB
  constructor
  · intro h
    obtain ⟨y, hy, rfl⟩ := List.mem_map.1 h
    obtain ⟨z, hz, rfl⟩ := List.mem_map.1 ((List.mergeSort_perm _ _).mem_iff.1 hy)
    exact hz
  · intro h
    exact List.mem_map.2 ⟨x.data.toList, (List.mergeSort_perm _ _).mem_iff.2 (List.mem_map.2 ⟨x, h, rfl⟩), rfl⟩
theorem sort_srt {l : List ByteArray} (hn : l.Nodup) : Srt (sortB l) := by
  have hp := List.pairwise_mergeSort (le := fun x y : List UInt8 => decide (x ≤ y)) (fun a b c h g => decide_eq_true (List.le_trans (of_decide_eq_true h) (of_decide_eq_true g))) (fun a b => by
    rw [Bool.or_eq_true]
    exact (List.le_total a b).imp decide_eq_true decide_eq_true) (l.map fun s => s.data.toList)
  have hnd : ((l.map fun s => s.data.toList).mergeSort fun x y => decide (x ≤ y)).Nodup := by
    rw [(List.mergeSort_perm _ _).nodup_iff]
    refine List.Pairwise.map _ (fun a b hab e => hab ?_) hn
    cases a with | mk a => cases b with | mk b =>
      exact congrArg _ (Array.toList_inj.1 e)
  intro i j hij hj
  unfold sortB at hj ⊢
  generalize ((l.map fun s => s.data.toList).mergeSort fun x y => decide (x ≤ y)) = m at hp hnd hj ⊢
  rw [List.length_map] at hj
  have hi : i < m.length := by omega
  have e1 : (m.map fun x => (⟨x.toArray⟩ : ByteArray)).getD i ⟨#[]⟩ = ⟨m[i].toArray⟩ := by simp [List.getD, hi]
  have e2 : (m.map fun x => (⟨x.toArray⟩ : ByteArray)).getD j ⟨#[]⟩ = ⟨m[j].toArray⟩ := by simp [List.getD, hj]
  rw [e1, e2, strLt_iff, ByteArray.toList_eq, ByteArray.toList_eq]
  show m[i] < m[j]
  have h1 : m[i] ≤ m[j] := of_decide_eq_true (List.pairwise_iff_getElem.1 hp i j hi hj hij)
  have h2 : m[i] ≠ m[j] := List.pairwise_iff_getElem.1 hnd i j hi hj hij
  rcases List.le_iff_lt_or_eq.1 h1 with h | h
  · exact h
  · exact absurd h h2
theorem srt_tail {x : ByteArray} {a : List ByteArray} (h : Srt (x :: a)) : Srt a := fun i j hij hj => by
  have := h (i + 1) (j + 1) (by omega) (by simpa using hj)
  simpa using this
theorem srt_head {x : ByteArray} {a : List ByteArray} (h : Srt (x :: a)) {y : ByteArray} (hy : y ∈ a) : strLt x y = true := by
  obtain ⟨k, hk, rfl⟩ := List.getElem_of_mem hy
  have := h 0 (k + 1) (by omega) (by simpa using hk)
  simpa [List.getD, hk] using this
theorem srt_ext : ∀ a b : List ByteArray, Srt a → Srt b → (∀ x, x ∈ a ↔ x ∈ b) → a = b
  | [], [], _, _, _ => rfl
  | [], y :: b, _, _, h => by have := (h y).2 List.mem_cons_self; cases this
  | x :: a, [], _, _, h => by have := (h x).1 List.mem_cons_self; cases this
  | x :: a, y :: b, ha, hb, h => by
    have hxy : x = y := by
      refine Classical.byContradiction fun hne => ?_
      have h1 : strLt y x = true := by
        rcases List.mem_cons.1 ((h x).1 List.mem_cons_self) with e | hm
        · exact absurd e hne
        · exact srt_head hb hm
      have h2 : strLt x y = true := by
        rcases List.mem_cons.1 ((h y).2 List.mem_cons_self) with e | hm
        · exact absurd e.symm hne
        · exact srt_head ha hm
      have := strLt_trans h1 h2
      rw [strLt_irrefl] at this
      cases this
    subst hxy
    rw [srt_ext a b (srt_tail ha) (srt_tail hb) (fun z => ?_)]
    constructor
    · intro hz
      rcases List.mem_cons.1 ((h z).1 (List.mem_cons_of_mem _ hz)) with e | hm
      · have := srt_head ha hz
        rw [e, strLt_irrefl] at this
        cases this
      · exact hm
    · intro hz
      rcases List.mem_cons.1 ((h z).2 (List.mem_cons_of_mem _ hz)) with e | hm
      · have := srt_head hb hz
        rw [e, strLt_irrefl] at this
        cases this
      · exact hm
theorem getD_in {α : Type} {l : List α} {d x : α} (h : x ∈ l) : ∃ i, i < l.length ∧ l.getD i d = x := by
  obtain ⟨k, hk, rfl⟩ := List.getElem_of_mem h
  exact ⟨k, hk, by simp [List.getD, hk]⟩
theorem TabOf.mem {T : Vu} {pm : List (ByteArray × Vu)} (h : TabOf T pm) (x : ByteArray) : x ∈ T.keys ↔ x ∈ pm.map (·.1) := by
  constructor
  · intro hx
    obtain ⟨i, hi, rfl⟩ := getD_in (d := (⟨#[]⟩ : ByteArray)) hx
    exact List.mem_map.2 ⟨_, h.has i hi, rfl⟩
  · intro hx
    obtain ⟨p, hp, rfl⟩ := List.mem_map.1 hx
    exact h.all p hp
theorem TabOf.sorted {T : Vu} {pm : List (ByteArray × Vu)} (h : TabOf T pm) {ks : List ByteArray} (hn : ks.Nodup) (hm : ∀ x, x ∈ ks ↔ x ∈ pm.map (·.1)) : sortB ks = T.keys :=
  srt_ext _ _ (sort_srt hn) h.srt (fun x => (sort_mem ks x).trans ((hm x).trans (h.mem x).symm))
def ksOf (pm : List (ByteArray × Vu)) (sn : List Nat) : List ByteArray := sn.reverse.map (kAt pm)
theorem ks_len (pm : List (ByteArray × Vu)) (sn : List Nat) : (ksOf pm sn).length = sn.length := by unfold ksOf; rw [List.length_map, List.length_reverse]
theorem nodup_lt {l : List Nat} {n : Nat} (h : l.Nodup) (hl : ∀ x ∈ l, x < n) : l.length ≤ n := by
  have := List.Nodup.length_le_of_subset h (l₂ := List.range n) (fun x hx => List.mem_range.2 (hl x hx))
  simpa using this
theorem kAt_map (pm : List (ByteArray × Vu)) {i : Nat} (hi : i < pm.length) : (pm.map (·.1))[i]? = some (kAt pm i) := by
  rw [List.getElem?_map]
  unfold kAt
  rw [List.getD_eq_getElem?_getD, List.getElem?_eq_getElem hi]
  rfl
theorem kAt_inj {pm : List (ByteArray × Vu)} (hn : (pm.map (·.1)).Nodup) {i j : Nat} (hi : i < pm.length) (hj : j < pm.length) (h : kAt pm i = kAt pm j) : i = j := by
  have h1 := kAt_map pm hi
  have h2 := kAt_map pm hj
  obtain ⟨a1, a2⟩ := List.getElem?_eq_some_iff.1 h1
  obtain ⟨b1, b2⟩ := List.getElem?_eq_some_iff.1 h2
  rcases Nat.lt_trichotomy i j with g | g | g
  · exact absurd (a2.trans (h.trans b2.symm)) (List.pairwise_iff_getElem.1 hn i j a1 b1 g)
  · exact g
  · exact absurd (b2.trans (h.symm.trans a2.symm)) (List.pairwise_iff_getElem.1 hn j i b1 a1 g)
theorem ks_all {pm : List (ByteArray × Vu)} (hn : (pm.map (·.1)).Nodup) {sn : List Nat} (h1 : sn.Nodup) (h2 : ∀ x ∈ sn, x < pm.length) (h3 : ∀ i, i < pm.length → i ∈ sn) : (ksOf pm sn).Nodup ∧ (∀ x, x ∈ ksOf pm sn ↔ x ∈ pm.map (·.1)) ∧ sn.length = pm.length := by
  refine ⟨?_, fun x => ?_, ?_⟩
  · unfold ksOf
    refine List.pairwise_map.2 ?_
    have hr : sn.reverse.Nodup := (List.reverse_perm sn).nodup_iff.2 h1
    exact List.Pairwise.imp_of_mem (fun {a b} ha hb (hab : a ≠ b) e => hab (kAt_inj hn (h2 a (by simpa using ha)) (h2 b (by simpa using hb)) e)) hr
  · unfold ksOf
    constructor
    · intro h
      obtain ⟨i, hi, rfl⟩ := List.mem_map.1 h
      exact List.mem_of_getElem? (kAt_map pm (h2 i (by simpa using hi)))
    · intro h
      obtain ⟨k, hk, rfl⟩ := List.getElem_of_mem h
      have hk2 : k < pm.length := by simpa using hk
      refine List.mem_map.2 ⟨k, by simpa using h3 k hk2, ?_⟩
      have := kAt_map pm hk2
      rw [List.getElem?_eq_getElem hk] at this
      injection this with this
      exact this.symm
  · have a1 := nodup_lt h1 h2
    have a2 := List.Nodup.length_le_of_subset (List.nodup_range (n := pm.length)) (l₂ := sn) (fun x hx => h3 x (List.mem_range.1 hx))
    rw [List.length_range] at a2
    omega
theorem TabOf.size {T : Vu} {pm : List (ByteArray × Vu)} (h : TabOf T pm) {sn : List Nat} (h1 : sn.Nodup) (h2 : ∀ x ∈ sn, x < pm.length) (h3 : ∀ i, i < pm.length → i ∈ sn) : sn.length = T.keys.length := by
  obtain ⟨a1, a2, a3⟩ := ks_all h.nd h1 h2 h3
  rw [← h.sorted a1 a2, sortB_len, ks_len]
end tab
end Go.Proofs.YtocehfhhmljejaaGreatDoor
