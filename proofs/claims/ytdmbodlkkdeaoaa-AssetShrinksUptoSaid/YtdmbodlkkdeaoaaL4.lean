/-
  Opening arguments of recursive types, over any program: the reading with its fuel, which falls with each step down.
-/
import Derived.Test.YtdmbodlkkdeaoaaL3
namespace Go.Proofs.Ytdmbodlkkdeaoaa
open Go.RowKit Go.WideShapes Go.ChangeShapes Go.ChangeAt

def RdgF {H : Type} (enc : TypeId × Value → H) (P : Program) (W : World) (fuel : Nat) (t : TypeId) (cs : List Value) : Prop :=
  ∃ y, DataW.trod enc P W 0 (fun _ => true) true fuel t cs = some y ∧ Sz P t y.1

section
variable {H : Type} {enc : TypeId × Value → H} {P : Program} {W : World}

theorem RdgF.rdg {fuel : Nat} {t : TypeId} {cs : List Value} (h : RdgF enc P W fuel t cs) : Rdg enc P W t cs := ⟨fuel, h⟩
theorem Rdg.fuel {t : TypeId} {cs : List Value} (h : Rdg enc P W t cs) : ∃ fuel, RdgF enc P W fuel t cs := h

theorem rdgF_slice {fuel : Nat} {t e : TypeId} {cs : List Value} (ht : P.underlying t = some (.slice e)) (hs : 0 < P.cellsOf e) (h : RdgF enc P W fuel t cs) :
    ∃ (A : Option Addr) (n c : Nat) (l : List (List Value)), cs = [.slice A n c] ∧ l.length = n ∧ SlOk A n c (P.bytesOf e) ∧ Rd W (P.cellsOf e) id A l ∧ ∀ x ∈ l, x.length = P.cellsOf e ∧ ∃ m, m < fuel ∧ RdgF enc P W m e x := by
  obtain ⟨y, h, hsz⟩ := h
  rcases DataW.trod_slice ht h with ⟨hcs, _⟩ | ⟨a, len, cap, elems, rest, n, hfu, hcs, hx, _, hl, hm, hlen, hi, hsp, _⟩
  · exact ⟨none, 0, 0, [], hcs, rfl, ⟨by omega, by omega, fun _ => rfl⟩, Rd.nil _ _ _ _, fun cs hc => by simp at hc⟩
  · have hw : cap * P.bytesOf e ≤ 140737488351232 := by
      have h1 := hsz ((elems.length + rest.length) * P.bytesOf e) (by rw [hx]; simp [DataW.weights, ht])
      rw [hlen, (hsp rfl).1, show len + (cap - len) = cap from by omega] at h1
      rw [reach_eq] at h1
      exact h1
    have hex : ∀ i, ∃ x : List Value, i < len → W.cells? 0 (a.add (i * P.cellsOf e)) (P.cellsOf e) = some x ∧ DataW.trod enc P W 0 (fun _ => true) true n e x = elems[i]? := by
      intro i
      by_cases hil : i < len
      · have h1 := hi i hil
        cases hc : W.cells? 0 (a.add (i * P.cellsOf e)) (P.cellsOf e) with
        | none =>
          rw [hc, List.getElem?_eq_getElem (by omega)] at h1
          simp at h1
        | some x =>
          rw [hc] at h1
          exact ⟨x, fun _ => ⟨rfl, h1⟩⟩
      · exact ⟨[], fun h => absurd h hil⟩
    obtain ⟨C, hC⟩ := Classical.axiomOfChoice hex
    refine ⟨some a, len, cap, (List.range len).map C, hcs, by simp, ⟨hl, hw, fun h => by cases h⟩, ?_, ?_⟩
    · rcases Nat.eq_zero_or_pos len with h0 | h0
      · subst h0
        exact .inl rfl
      · obtain ⟨h1, _⟩ := hC 0 h0
        obtain ⟨_, hlen0, h2⟩ := World.cells?_some h1
        have h3 := h2 0 hs
        have hspot : a.spot = none := by
          have h4 : (C 0)[0]? = some ((C 0)[0]'(by omega)) := List.getElem?_eq_getElem (by omega)
          rw [h4] at h3
          have := World.cell?_spot h3
          simpa [Addr.add] using this
        obtain ⟨b, o, spot⟩ := a
        simp only at hspot
        subst hspot
        refine .inr ⟨b, o, rfl, fun k y hy j u hu => ?_⟩
        have hk : k < len := by
          have := (List.getElem?_eq_some_iff.1 hy).1
          simpa using this
        rw [List.getElem?_map, List.getElem?_range hk] at hy
        injection hy with hy
        subst hy
        obtain ⟨h1, _⟩ := hC k hk
        obtain ⟨_, hlen, h2⟩ := World.cells?_some h1
        have hj : j < P.cellsOf e := by rw [← hlen]; exact (List.getElem?_eq_some_iff.1 hu).1
        have h3 := h2 j hj
        rw [Go.Deep.add_add, Go.WideShapes.add_plain, ← Nat.add_assoc] at h3
        exact h3.trans hu
    · intro x hx'
      obtain ⟨i, hi', rfl⟩ := List.mem_map.1 hx'
      have hil : i < len := List.mem_range.1 hi'
      obtain ⟨h1, h2⟩ := hC i hil
      rw [List.getElem?_eq_getElem (by omega)] at h2
      refine ⟨(World.cells?_some h1).2.1, n, by omega, _, h2, fun m hm' => ?_⟩
      refine hsz m ?_
      rw [hx]
      simp only [DataW.weights, ht, List.mem_cons, List.mem_append]
      exact .inr (.inl (sz_all (List.mem_map.2 ⟨_, List.getElem_mem _, rfl⟩) hm'))

theorem rdgF_struct {fuel : Nat} {t : TypeId} {fs : Array Field} {cs : List Value} (ht : P.underlying t = some (.struct fs)) (h : RdgF enc P W fuel t cs) :
    cs.length = P.cellsOf t ∧ ∀ (i : Nat) (f : Field), fs[i]? = some f → ∃ m, m < fuel ∧ RdgF enc P W m f.type ((cs.drop f.offset).take (P.cellsOf f.type)) := by
  obtain ⟨y, h, hsz⟩ := h
  obtain ⟨xs, n, hfu, hx, hl, hxl, hf⟩ := DataW.trod_struct ht h
  refine ⟨hl, fun i f hi => ?_⟩
  have hil : i < fs.size := (Array.getElem?_eq_some_iff.1 hi).1
  have h1 := hf i f hi
  rw [List.getElem?_eq_getElem (by omega)] at h1
  refine ⟨n, by omega, _, h1, fun m hm => hsz m ?_⟩
  rw [hx]
  simp only [DataW.weights, ht]
  refine sz_each (j := i) (t := f.type) (d := (xs[i]'(by omega)).1) ?_ ?_ hm
  · rw [List.getElem?_map, Array.getElem?_toList, hi]; rfl
  · rw [List.getElem?_map, List.getElem?_eq_getElem (by omega)]; rfl
end

theorem list_dec {α β : Type} (f : α → β) (good : α → Prop) : ∀ (l : List β), (∀ x ∈ l, ∃ a, x = f a ∧ good a) → ∃ l' : List α, l = l'.map f ∧ ∀ a ∈ l', good a
  | [], _ => ⟨[], rfl, fun a h => by simp at h⟩
  | x :: l, hd => by
    obtain ⟨a, ha, hg⟩ := hd x (List.mem_cons_self)
    obtain ⟨l', hl', hg'⟩ := list_dec f good l (fun x' h' => hd x' (List.mem_cons_of_mem _ h'))
    refine ⟨a :: l', by rw [List.map_cons, ← ha, ← hl'], fun b hb => ?_⟩
    rcases List.mem_cons.1 hb with rfl | hb
    · exact hg
    · exact hg' b hb

theorem Rd.of_map {α : Type} {W : World} {size : Nat} {f : α → List Value} {A : Option Addr} {l : List α} (h : Rd W size id A (l.map f)) : Rd W size f A l := by
  rcases h with h0 | ⟨b, o, rfl, hr⟩
  · exact .inl (by simpa using h0)
  · refine .inr ⟨b, o, rfl, fun k y hy j u hu => hr k (f y) (by rw [List.getElem?_map, hy]; rfl) j u hu⟩
end Go.Proofs.Ytdmbodlkkdeaoaa
