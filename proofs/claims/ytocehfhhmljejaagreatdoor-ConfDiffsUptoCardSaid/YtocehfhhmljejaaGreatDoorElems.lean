/-
  Opening arguments of recursive types, over any program: the reading with its fuel, which falls with each step down. Readings of slices with the readings of their elements and the bulk of them, over any program; strings, lists of strings with their bulk.
-/
import Derived.Test.YtocehfhhmljejaaGreatDoorL3
import Derived.Test.YtocehfhhmljejaaGreatDoorRows
namespace Go.Proofs.YtocehfhhmljejaaGreatDoor
open Go.RowKit Go.WideShapes Go.ChangeShapes Go.ChangeAt

def RdgF {H : Type} (enc : TypeId × Value → H) (P : Program) (W : World) (fuel : Nat) (t : TypeId) (cs : List Value) : Prop :=
  ∃ y, DataW.trod enc P W 0 (fun _ => true) true fuel t cs = some y ∧ Sz P t y.1

section
variable {H : Type} {enc : TypeId × Value → H} {P : Program} {W : World}

theorem Rdg.fuel {t : TypeId} {cs : List Value} (h : Rdg enc P W t cs) : ∃ fuel, RdgF enc P W fuel t cs := h

theorem rdgF_slice {fuel : Nat} {t e : TypeId} {cs : List Value} (ht : P.underlying t = some (.slice e)) (hs : 0 < P.cellsOf e) (h : RdgF enc P W fuel t cs) :
    ∃ (A : Option Addr) (n c : Nat) (l : List (List Value)), cs = [.slice A n c] ∧ l.length = n ∧ SlOk A n c (P.bytesOf e) ∧ Rd W (P.cellsOf e) id A l ∧ ∀ x ∈ l, x.length = P.cellsOf e ∧ ∃ m, m < fuel ∧ RdgF enc P W m e x := by
  obtain ⟨y, h, hsz⟩ := h
  rcases DataW.trod_slice ht h with ⟨hcs, _⟩ | ⟨a, len, cap, elems, rest, n, hfu, hcs, hx, _, hl, hm, hlen, hi, hsp, _⟩
  · exact ⟨none, 0, 0, [], hcs, rfl, ⟨by omega, by omega, fun _ => rfl⟩, Rd.nil _ _ _ _, fun cs hc => by simp at hc⟩
  · have hw : cap * P.bytesOf e ≤ 140737488351232 := by
      have h1 := hsz ((elems.length + rest.length) * P.bytesOf e) (by rw [hx]; simp [DataW.weights, ht])
      rw [hlen, (hsp rfl).1, show len + (cap - len) = cap from by omega] at h1
      rw [reach_eq] at h1
      exact h1
    have hex : ∀ i, ∃ x : List Value, i < len → W.cells? 0 (a.add (i * P.cellsOf e)) (P.cellsOf e) = some x ∧ DataW.trod enc P W 0 (fun _ => true) true n e x = elems[i]? := by
      intro i
      by_cases hil : i < len
      · have h1 := hi i hil
        cases hc : W.cells? 0 (a.add (i * P.cellsOf e)) (P.cellsOf e) with
        | none =>
          rw [hc, List.getElem?_eq_getElem (by omega)] at h1
          simp at h1
        | some x =>
          rw [hc] at h1
          exact ⟨x, fun _ => ⟨rfl, h1⟩⟩
      · exact ⟨[], fun h => absurd h hil⟩
    obtain ⟨C, hC⟩ := Classical.axiomOfChoice hex
    refine ⟨some a, len, cap, (List.range len).map C, hcs, by simp, ⟨hl, hw, fun h => by cases h⟩, ?_, ?_⟩
    · rcases Nat.eq_zero_or_pos len with h0 | h0
      · subst h0
        exact .inl rfl
      · obtain ⟨h1, _⟩ := hC 0 h0
        obtain ⟨_, hlen0, h2⟩ := World.cells?_some h1
        have h3 := h2 0 hs
        have hspot : a.spot = none := by
          have h4 : (C 0)[0]? = some ((C 0)[0]'(by omega)) := List.getElem?_eq_getElem (by omega)
          rw [h4] at h3
          have := World.cell?_spot h3
          simpa [Addr.add] using this
        obtain ⟨b, o, spot⟩ := a
        simp only at hspot
        subst hspot
        refine .inr ⟨b, o, rfl, fun k y hy j u hu => ?_⟩
        have hk : k < len := by
          have := (List.getElem?_eq_some_iff.1 hy).1
          simpa using this
        rw [List.getElem?_map, List.getElem?_range hk] at hy
        injection hy with hy
        subst hy
        obtain ⟨h1, _⟩ := hC k hk
        obtain ⟨_, hlen, h2⟩ := World.cells?_some h1
        have hj : j < P.cellsOf e := by rw [← hlen]; exact (List.getElem?_eq_some_iff.1 hu).1
        have h3 := h2 j hj
        rw [Go.Deep.add_add, Go.WideShapes.add_plain, ← Nat.add_assoc] at h3
        exact h3.trans hu
    · intro x hx'
      obtain ⟨i, hi', rfl⟩ := List.mem_map.1 hx'
      have hil : i < len := List.mem_range.1 hi'
      obtain ⟨h1, h2⟩ := hC i hil
      rw [List.getElem?_eq_getElem (by omega)] at h2
      refine ⟨(World.cells?_some h1).2.1, n, by omega, _, h2, fun m hm' => ?_⟩
      refine hsz m ?_
      rw [hx]
      simp only [DataW.weights, ht, List.mem_cons, List.mem_append]
      exact .inr (.inl (sz_all (List.mem_map.2 ⟨_, List.getElem_mem _, rfl⟩) hm'))

end

end Go.Proofs.YtocehfhhmljejaaGreatDoor
namespace Go.Proofs.YtocehfhhmljejaaGreatDoor
open Go.RowKit

section
variable {H : Type} {enc : TypeId × Value → H} {P : Program} {W : World}

theorem trod_elems {fuel : Nat} {t e : TypeId} {cs : List Value} {y : DataW H × List MemPlace} (ht : P.underlying t = some (.slice e)) (hs : 0 < P.cellsOf e) (h : DataW.trod enc P W 0 (fun _ => true) true fuel t cs = some y) (hsz : Sz P t y.1) :
    ∃ (A : Option Addr) (n c : Nat) (l : List (List Value × DataW H)), cs = [.slice A n c] ∧ l.length = n ∧ SlOk A n c (P.bytesOf e) ∧ Rd W (P.cellsOf e) id A (l.map (·.1)) ∧
      (∀ x ∈ l, x.1.length = P.cellsOf e ∧ ∃ m z, m < fuel ∧ DataW.trod enc P W 0 (fun _ => true) true m e x.1 = some (x.2, z) ∧ Sz P e x.2) ∧ Rows.uptoBulkAll (l.map (·.2)) ≤ Rows.uptoBulk y.1 := by
  have hF : RdgF enc P W fuel t cs := ⟨y, h, hsz⟩
  rcases DataW.trod_slice ht h with ⟨hcs, hx⟩ | ⟨a, len, cap, elems, rest, n, hfu, hcs, hx, _, hl, hm, hlen, hi, hsp, _⟩
  · exact ⟨none, 0, 0, [], hcs, rfl, ⟨by omega, by omega, fun _ => rfl⟩, Rd.nil _ _ _ _, fun x hx => by simp at hx, by simp [Rows.uptoBulkAll]⟩
  · obtain ⟨A, n', c', l, e1, e2, e3, e4, e5⟩ := rdgF_slice ht hs hF
    rw [hcs] at e1
    injection e1 with e1 _
    injection e1 with h1 h2 h3
    subst h1 h2 h3
    have key : ∀ i, i < len → ∃ z, ∃ x d, l[i]? = some x ∧ (elems.map (·.1))[i]? = some d ∧ DataW.trod enc P W 0 (fun _ => true) true n e x = some (d, z) ∧ Sz P e d := by
      intro i hil
      have h1 := hi i hil
      obtain ⟨b, o, x, hA, hx1, hm1, hc1⟩ := e4.at_ (k := i) (by omega)
      injection hA with hA
      subst hA
      have hlx : x.length = P.cellsOf e := (e5 x hm1).1
      have hc1 : ∀ j v, x[j]? = some v → W.cell? ⟨b, o + i * P.cellsOf e + j, none⟩ = some v := hc1
      have hc2 : W.cells? 0 ((⟨b, o, none⟩ : Addr).add (i * P.cellsOf e)) (P.cellsOf e) = some x := by
        cases hc : W.cells? 0 ((⟨b, o, none⟩ : Addr).add (i * P.cellsOf e)) (P.cellsOf e) with
        | none =>
          rw [hc, List.getElem?_eq_getElem (by omega)] at h1
          simp at h1
        | some x' =>
          obtain ⟨_, hlen', h3⟩ := World.cells?_some hc
          congr 1
          apply List.ext_getElem?
          intro j
          by_cases hj : j < P.cellsOf e
          · have h4 := h3 j hj
            rw [Go.Deep.add_add, Go.WideShapes.add_plain] at h4
            have h5 := hc1 j (x[j]'(by omega)) (List.getElem?_eq_getElem (by omega))
            rw [Nat.add_assoc] at h5
            rw [h5] at h4
            rw [← h4, List.getElem?_eq_getElem (by omega)]
          · rw [List.getElem?_eq_none (by omega), List.getElem?_eq_none (by omega)]
      rw [hc2, List.getElem?_eq_getElem (by omega)] at h1
      refine ⟨(elems[i]'(by omega)).2, x, (elems[i]'(by omega)).1, hx1, ?_, h1, fun m hm' => hsz m ?_⟩
      · rw [List.getElem?_map, List.getElem?_eq_getElem (by omega)]; rfl
      · rw [hx]
        simp only [DataW.weights, ht, List.mem_cons, List.mem_append]
        exact .inr (.inl (sz_all (List.mem_map.2 ⟨_, List.getElem_mem _, rfl⟩) hm'))
    have hll : l.length = len := e2
    refine ⟨some a, len, cap, l.zip (elems.map (·.1)), hcs, by simp; omega, e3, ?_, ?_, ?_⟩
    · rw [List.map_fst_zip (by simp; omega)]
      exact e4
    · intro x hx'
      obtain ⟨i, hi', hxi⟩ := List.getElem_of_mem hx'
      have hil : i < len := by simp at hi'; omega
      obtain ⟨z, x', d, k1, k2, k3, k4⟩ := key i hil
      have k5 : (l.zip (elems.map (·.1)))[i]? = some (x', d) := by rw [List.getElem?_zip_eq_some]; exact ⟨k1, k2⟩
      rw [List.getElem?_eq_getElem hi', hxi] at k5
      injection k5 with k5
      subst k5
      exact ⟨(e5 x' (List.mem_of_getElem? k1)).1, n, z, by omega, k3, k4⟩
    · rw [List.map_snd_zip (by simp; omega), hx]
      simp only [Rows.uptoBulk]
      omega
end

section
variable {H : Type} {enc : TypeId × Value → H} {P : Program} {W : World}
theorem trod_str_w {fuel : Nat} {t : TypeId} {cs : List Value} {y : DataW H} {z : List MemPlace} (ht : P.underlying t = some .string) (h : DataW.trod enc P W 0 (fun _ => true) true fuel t cs = some (y, z)) (hsz : Sz P t y) :
    ∃ s : ByteArray, cs = [.string s] ∧ s.size ≤ 140737488351232 ∧ s.size + 1 = Rows.uptoBulk y := by
  obtain ⟨s, hc, he, _⟩ := DataW.trod_string ht h
  injection he with he _
  subst he
  refine ⟨s, hc, ?_, ?_⟩
  · have := hsz s.data.toList.length (by simp [DataW.weights])
    rw [reach_eq] at this
    exact this
  · simp only [Rows.uptoBulk]
    rfl
end
end Go.Proofs.YtocehfhhmljejaaGreatDoor
