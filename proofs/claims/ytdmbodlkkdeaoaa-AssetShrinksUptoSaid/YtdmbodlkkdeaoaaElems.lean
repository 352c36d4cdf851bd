/-
  Readings of slices with the readings of their elements and the bulk of them, over any program; strings, lists of strings with their bulk.
-/
import Derived.Test.YtdmbodlkkdeaoaaRows
import Derived.Test.YtdmbodlkkdeaoaaL4
namespace Go.Proofs.Ytdmbodlkkdeaoaa
open Go.RowKit

section
variable {H : Type} {enc : TypeId × Value → H} {P : Program} {W : World}

/-- A slice's reading, with the readings of its elements. -/
theorem trod_elems {fuel : Nat} {t e : TypeId} {cs : List Value} {y : DataW H × List MemPlace} (ht : P.underlying t = some (.slice e)) (hs : 0 < P.cellsOf e) (h : DataW.trod enc P W 0 (fun _ => true) true fuel t cs = some y) (hsz : Sz P t y.1) :
    ∃ (A : Option Addr) (n c : Nat) (l : List (List Value × DataW H)), cs = [.slice A n c] ∧ l.length = n ∧ SlOk A n c (P.bytesOf e) ∧ Rd W (P.cellsOf e) id A (l.map (·.1)) ∧
      (∀ x ∈ l, x.1.length = P.cellsOf e ∧ ∃ m z, m < fuel ∧ DataW.trod enc P W 0 (fun _ => true) true m e x.1 = some (x.2, z) ∧ Sz P e x.2) ∧ Rows.uptoBulkAll (l.map (·.2)) ≤ Rows.uptoBulk y.1 := by
  have hF : RdgF enc P W fuel t cs := ⟨y, h, hsz⟩
  rcases DataW.trod_slice ht h with ⟨hcs, hx⟩ | ⟨a, len, cap, elems, rest, n, hfu, hcs, hx, _, hl, hm, hlen, hi, hsp, _⟩
  · exact ⟨none, 0, 0, [], hcs, rfl, ⟨by omega, by omega, fun _ => rfl⟩, Rd.nil _ _ _ _, fun x hx => by simp at hx, by simp [Rows.uptoBulkAll]⟩
  · obtain ⟨A, n', c', l, e1, e2, e3, e4, e5⟩ := rdgF_slice ht hs hF
    rw [hcs] at e1
    injection e1 with e1 _
    injection e1 with h1 h2 h3
    subst h1 h2 h3
    have key : ∀ i, i < len → ∃ z, ∃ x d, l[i]? = some x ∧ (elems.map (·.1))[i]? = some d ∧ DataW.trod enc P W 0 (fun _ => true) true n e x = some (d, z) ∧ Sz P e d := by
      intro i hil
      have h1 := hi i hil
      obtain ⟨b, o, x, hA, hx1, hm1, hc1⟩ := e4.at_ (k := i) (by omega)
      injection hA with hA
      subst hA
      have hlx : x.length = P.cellsOf e := (e5 x hm1).1
      have hc1 : ∀ j v, x[j]? = some v → W.cell? ⟨b, o + i * P.cellsOf e + j, none⟩ = some v := hc1
      have hc2 : W.cells? 0 ((⟨b, o, none⟩ : Addr).add (i * P.cellsOf e)) (P.cellsOf e) = some x := by
        cases hc : W.cells? 0 ((⟨b, o, none⟩ : Addr).add (i * P.cellsOf e)) (P.cellsOf e) with
        | none =>
          rw [hc, List.getElem?_eq_getElem (by omega)] at h1
          simp at h1
        | some x' =>
          obtain ⟨_, hlen', h3⟩ := World.cells?_some hc
          congr 1
          apply List.ext_getElem?
          intro j
          by_cases hj : j < P.cellsOf e
          · have h4 := h3 j hj
            rw [Go.Deep.add_add, Go.WideShapes.add_plain] at h4
            have h5 := hc1 j (x[j]'(by omega)) (List.getElem?_eq_getElem (by omega))
            rw [Nat.add_assoc] at h5
            rw [h5] at h4
            rw [← h4, List.getElem?_eq_getElem (by omega)]
          · rw [List.getElem?_eq_none (by omega), List.getElem?_eq_none (by omega)]
      rw [hc2, List.getElem?_eq_getElem (by omega)] at h1
      refine ⟨(elems[i]'(by omega)).2, x, (elems[i]'(by omega)).1, hx1, ?_, h1, fun m hm' => hsz m ?_⟩
      · rw [List.getElem?_map, List.getElem?_eq_getElem (by omega)]; rfl
      · rw [hx]
        simp only [DataW.weights, ht, List.mem_cons, List.mem_append]
        exact .inr (.inl (sz_all (List.mem_map.2 ⟨_, List.getElem_mem _, rfl⟩) hm'))
    have hll : l.length = len := e2
    refine ⟨some a, len, cap, l.zip (elems.map (·.1)), hcs, by simp; omega, e3, ?_, ?_, ?_⟩
    · rw [List.map_fst_zip (by simp; omega)]
      exact e4
    · intro x hx'
      obtain ⟨i, hi', hxi⟩ := List.getElem_of_mem hx'
      have hil : i < len := by simp at hi'; omega
      obtain ⟨z, x', d, k1, k2, k3, k4⟩ := key i hil
      have k5 : (l.zip (elems.map (·.1)))[i]? = some (x', d) := by rw [List.getElem?_zip_eq_some]; exact ⟨k1, k2⟩
      rw [List.getElem?_eq_getElem hi', hxi] at k5
      injection k5 with k5
      subst k5
      exact ⟨(e5 x' (List.mem_of_getElem? k1)).1, n, z, by omega, k3, k4⟩
    · rw [List.map_snd_zip (by simp; omega), hx]
      simp only [Rows.uptoBulk]
      omega
end

theorem bulk_mem {H : Type} : ∀ {l : List (DataW H)} {d : DataW H}, d ∈ l → Rows.uptoBulk d ≤ Rows.uptoBulkAll l
  | [], _, h => by cases h
  | a :: l, d, h => by
    simp only [Rows.uptoBulkAll]
    rcases List.mem_cons.1 h with rfl | h
    · omega
    · have := bulk_mem h
      omega


/-- Elements made out of readings, one by one, with a weight below their bulk. -/
theorem list_w {H α : Type} (f : α → List Value) (good : α → Prop) (wt : α → Nat) : ∀ (l : List (List Value × DataW H)), (∀ x ∈ l, ∃ t, x.1 = f t ∧ good t ∧ wt t ≤ Rows.uptoBulk x.2) →
    ∃ l' : List α, l.map (·.1) = l'.map f ∧ (∀ a ∈ l', good a) ∧ (l'.map wt).sum ≤ Rows.uptoBulkAll (l.map (·.2))
  | [], _ => ⟨[], rfl, fun a h => by simp at h, by simp⟩
  | x :: l, hd => by
    obtain ⟨a, ha, hg, hc⟩ := hd x (List.mem_cons_self)
    obtain ⟨l', hl', hg', hc'⟩ := list_w f good wt l (fun x' h' => hd x' (List.mem_cons_of_mem _ h'))
    refine ⟨a :: l', by rw [List.map_cons, List.map_cons, ← ha, ← hl'], fun b hb => ?_, ?_⟩
    · rcases List.mem_cons.1 hb with rfl | hb
      · exact hg
      · exact hg' b hb
    · simp only [List.map_cons, List.sum_cons, Rows.uptoBulkAll]
      omega

section
variable {H : Type} {enc : TypeId × Value → H} {P : Program} {W : World}
/-- A string with its bulk. -/
theorem trod_str_w {fuel : Nat} {t : TypeId} {cs : List Value} {y : DataW H} {z : List MemPlace} (ht : P.underlying t = some .string) (h : DataW.trod enc P W 0 (fun _ => true) true fuel t cs = some (y, z)) (hsz : Sz P t y) :
    ∃ s : ByteArray, cs = [.string s] ∧ s.size ≤ 140737488351232 ∧ s.size + 1 = Rows.uptoBulk y := by
  obtain ⟨s, hc, he, _⟩ := DataW.trod_string ht h
  injection he with he _
  subst he
  refine ⟨s, hc, ?_, ?_⟩
  · have := hsz s.data.toList.length (by simp [DataW.weights])
    rw [reach_eq] at this
    exact this
  · simp only [Rows.uptoBulk]
    rfl
/-- A list of strings with its bulk. -/
theorem trod_strs_w {fuel : Nat} {t e : TypeId} {cs : List Value} {y : DataW H} {z : List MemPlace} (ht : P.underlying t = some (.slice e)) (he : P.underlying e = some .string) (hce : P.cellsOf e = 1) (hbe : P.bytesOf e = 16)
    (h : DataW.trod enc P W 0 (fun _ => true) true fuel t cs = some (y, z)) (hsz : Sz P t y) :
    ∃ (A : Option Addr) (n c : Nat) (l : List ByteArray), cs = [.slice A n c] ∧ l.length = n ∧ SlOk A n c 16 ∧ Rd W 1 scell A l ∧ (∀ s ∈ l, s.size ≤ 140737488351232) ∧ (l.map fun s => s.size + 1).sum ≤ Rows.uptoBulk y := by
  obtain ⟨A, n, c, l5, e4, hn, hsl, hr, hel, hbulk⟩ := trod_elems ht (by omega) h hsz
  obtain ⟨l, h1, h2, h3⟩ := list_w scell (fun s => s.size ≤ 140737488351232) (fun s => s.size + 1) l5 (fun x hx => by
    obtain ⟨_, m', z', hm', ht', hs'⟩ := hel x hx
    obtain ⟨s, hs1, hs2, hs3⟩ := trod_str_w he ht' hs'
    exact ⟨s, hs1, hs2, by omega⟩)
  rw [h1, hce] at hr
  rw [hbe] at hsl
  refine ⟨A, n, c, l, e4, ?_, hsl, hr.of_map, h2, Nat.le_trans h3 hbulk⟩
  have := congrArg List.length h1
  simpa [hn] using this.symm
end
end Go.Proofs.Ytdmbodlkkdeaoaa
