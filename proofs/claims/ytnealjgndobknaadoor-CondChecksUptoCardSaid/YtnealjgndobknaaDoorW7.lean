/-
  A listed variable that holds a slice of strings: what the list says of memory.
-/
import Derived.Test.YtnealjgndobknaaDoorW6
import Derived.Test.YtnealjgndobknaaDoorCard
namespace Go.Proofs.YtnealjgndobknaaDoor
open Go.RowKit Go.WideShapes Go.ChangeShapes Go.ChangeAt
set_option linter.unusedVariables false
set_option linter.unusedSimpArgs false
/-- The words' variable and its row. -/
def WordsAt (g : Nat) (ws : List (List UInt8)) (b o c : Nat) (W : World) : Prop :=
  W.cell? ⟨g, 0, none⟩ = some (.slice (some ⟨b, o, none⟩) ws.length c) ∧ ∀ i l, ws[i]? = some l → W.cell? ⟨b, o + i, none⟩ = some (.string ⟨l.toArray⟩)
theorem words_at {P : Program} {W : World} {name : String} {ws : List (List UInt8)} {g : Nat} {t e : TypeId} (h0 : 0 < ws.length)
    (hg : P.globalNamed name = some g) (hty : (P.globals[g]?).map (·.type) = some t) (ht : P.underlying t = some (.slice e)) (he : P.underlying e = some .string) (hce : P.cellsOf e = 1) :
    ∀ (laid : List (String × DataW Unit)) (i : Nat) (ps : List MemPlace), laid[i]? = some (name, .slice (ws.map fun l => .lit (.string l)) []) → DataW.LaidVars P W laid ps → ∃ b o c, ws.length ≤ c ∧ c ≤ maxLen ∧ WordsAt g ws b o c W
  | [], i, _, h, _ => by simp at h
  | (n', d) :: r, 0, ps, h, hl => by
    simp at h
    obtain ⟨rfl, rfl⟩ := h
    obtain ⟨g', t', cs, fuel, p, q, hg', ht', hvar, hd, _, _⟩ := hl
    obtain rfl := Option.some.inj (hg.symm.trans hg')
    obtain rfl := Option.some.inj (hty.symm.trans ht')
    have hcell : ∀ k v, cs[k]? = some v → W.cell? ⟨g, k, none⟩ = some v := by
      intro k v hk
      unfold World.var? at hvar
      rw [hg] at hvar
      simp only [Option.bind_some] at hvar
      split at hvar
      · rename_i arr u v' hh
        injection hvar with hvar
        subst hvar
        unfold World.cell?
        simp [hh, hk]
      · cases hvar
    rcases DataW.trod_slice ht hd with ⟨_, hx⟩ | ⟨a, len, cap, elems, rest, n, hfu, hcs, hx, _, hl1, hm, hlen, hi, _⟩
    · injection hx with hx _
      cases hx
    · injection hx with hx _
      injection hx with hx1 hx2
      have hle : elems.length = ws.length := by
        have := congrArg List.length hx1
        simpa using this.symm
      have hlw : len = ws.length := by omega
      have hel : ∀ i (hi' : i < len), ∃ l x, ws[i]? = some l ∧ W.cells? 0 (a.add (i * P.cellsOf e)) (P.cellsOf e) = some [x] ∧ x = .string ⟨l.toArray⟩ := by
        intro i hi'
        have h1 := hi i hi'
        obtain ⟨el, hel⟩ : ∃ el, elems[i]? = some el := ⟨_, List.getElem?_eq_getElem (by omega)⟩
        rw [hel] at h1
        have h2 : (elems.map (·.1))[i]? = some el.1 := by rw [List.getElem?_map, hel]; rfl
        rw [← hx1, List.getElem?_map] at h2
        cases hw : ws[i]? with
        | none => rw [hw] at h2; cases h2
        | some l =>
          rw [hw] at h2
          injection h2 with h2
          cases hc : W.cells? 0 (a.add (i * P.cellsOf e)) (P.cellsOf e) with
          | none => rw [hc] at h1; cases h1
          | some xs =>
            rw [hc] at h1
            obtain ⟨s, hs1, hs2, _⟩ := DataW.trod_string he h1
            rw [hs2] at h2
            injection h2 with h2
            injection h2 with h2
            refine ⟨l, .string s, rfl, ?_, ?_⟩
            · rw [hs1]
            · rw [h2]
      have hs0 : a.spot = none := by
        obtain ⟨l, x, _, h1, _⟩ := hel 0 (by omega)
        obtain ⟨_, _, h2⟩ := World.cells?_some h1
        have h3 := h2 0 (by omega)
        have := World.cell?_spot (h3.trans (by rfl))
        simpa [Addr.add] using this
      obtain ⟨b, o, spot⟩ := a
      simp only at hs0
      subst hs0
      refine ⟨b, o, cap, by omega, hm, ?_, fun i l hil => ?_⟩
      · refine hcell 0 _ ?_
        rw [← Array.getElem?_toList, hcs, ← hlw]
        rfl
      · have hil' : i < len := by
          have := (List.getElem?_eq_some_iff.1 hil).1
          omega
        obtain ⟨l', x, h1, h2, h3⟩ := hel i hil'
        rw [hil] at h1
        injection h1 with h1
        subst h1
        obtain ⟨_, _, h4⟩ := World.cells?_some h2
        have h5 := h4 0 (by omega)
        rw [Go.Deep.add_add, Go.WideShapes.add_plain, hce, Nat.mul_one, Nat.add_zero] at h5
        rw [h5, h3]
        rfl
  | (n', d) :: r, i + 1, ps, h, hl => by
    obtain ⟨g', t', cs, fuel, p, q, _, _, _, _, hr, _⟩ := hl
    exact words_at h0 hg hty ht he hce r i q (by simpa using h) hr
end Go.Proofs.YtnealjgndobknaaDoor
