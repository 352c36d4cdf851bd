/-
  list.Cond as an argument. A listed variable that holds a slice of strings: what the list says of memory. What CondChecks may count on: MaxLen, the words.
-/
import Derived.Test.YtkjflkbjepdaaaaGreatDoorPV
import Derived.Test.YtkjflkbjepdaaaaGreatDoorW3
import Derived.Test.YtkjflkbjepdaaaaGreatDoorCard
import Derived.Test.YtkjflkbjepdaaaaGreatDoorW5
namespace Go.Proofs.YtkjflkbjepdaaaaGreatDoor
open Go.RowKit
set_option linter.unusedVariables false
section
variable (E : Env)
/-- Readings of conditions, one by one. -/
theorem conds_of : ∀ (l : List (List DD × Nat)), (∀ x ∈ l, (∃ c : Cd, x.1 = (encC c).cells ∧ c.wt ≤ x.2) ∧ x.1.length = 9) → ∃ cs : List Cd, cs.length = l.length ∧ (∀ i, i < l.length → (l.getD i ([], 0)).1 = (encC (cs.getD i .zero)).cells) ∧ Cd.wtL cs ≤ (l.map (·.2)).sum
  | [], _ => ⟨[], rfl, fun i hi => by simp at hi, Nat.zero_le _⟩
  | x :: l, h => by
    obtain ⟨vs, h2, h3, h4⟩ := conds_of l (fun y hy => h y (List.mem_cons_of_mem _ hy))
    obtain ⟨⟨v, h6, h7⟩, _⟩ := h x List.mem_cons_self
    refine ⟨v :: vs, by simp [h2], fun i hi => ?_, ?_⟩
    · match i, hi with
      | 0, _ => exact h6
      | i + 1, hi => exact h3 i (by simpa using hi)
    · simp only [Cd.wtL, List.map_cons, List.sum_cons]
      omega
theorem ccell_eq (v : Cd) (j : Nat) (hj : j < 9) : (encC v).cells.getD j .opq = v.cell j := by
  match j, hj with
  | 0, _ => rfl
  | 1, _ => rfl
  | 2, _ => rfl
  | 3, _ => rfl
  | 4, _ => rfl
  | 5, _ => rfl
  | 6, _ => rfl
  | 7, _ => rfl
  | 8, _ => rfl
theorem opn_conds {N : Nat} (h : Opn (cx Tryz.prog mixed tyT_ok E) N 28 (fun ds n => ∃ c : Cd, ds = (encC c).cells ∧ c.wt ≤ n)) :
    Opn (cx Tryz.prog mixed tyT_ok E) (N + 1) 26 (fun ds n => ∃ d : DD, ds = [d] ∧ ∃ l : List Cd, d = .rc (.conds l) ∧ Cd.wtL l ≤ n) := by
  refine Opn.mono (opn_slice (X := (cx Tryz.prog mixed tyT_ok E)) Tryz.underlying26 (by kernel_rfl) h) ?_
  rintro ds n ⟨l, hl, hb, rfl, rfl⟩
  obtain ⟨vs, h2, h3, h4⟩ := conds_of l hl
  refine ⟨_, _, ⟨_, rfl, vs, rfl, h4⟩, Nat.le_refl _, ⟨Dle.rc (X := (cx Tryz.prog mixed tyT_ok E)) ?_, trivial⟩⟩
  refine Dle.sl (X := (cx Tryz.prog mixed tyT_ok E)) (show l.length = vs.length from h2.symm) (fun i j hi hj => Dle.of_eq ?_)
  rw [h3 i hi]
  exact ccell_eq _ _ hj
theorem opn_cond : ∀ N, Opn (cx Tryz.prog mixed tyT_ok E) N 28 (fun ds n => ∃ c : Cd, ds = (encC c).cells ∧ c.wt ≤ n)
  | 0 => opn_zero
  | N + 1 => by
    refine Opn.mono (opn_struct (X := (cx Tryz.prog mixed tyT_ok E)) (N := N) Tryz.underlying28 (by kernel_rfl) (by kernel_rfl) (by kernel_rfl) (Rs := [_, _, _, _])
      ⟨opn_int (X := (cx Tryz.prog mixed tyT_ok E)) Tryz.underlying3, opn_str (X := (cx Tryz.prog mixed tyT_ok E)) Tryz.underlying9, opn_val E N, Opn.le (opn_conds E (opn_cond N)) (Nat.le_succ _), trivial⟩) ?_
    rintro ds n ⟨_, _, _, _, ⟨k, hk, rfl, rfl⟩, ⟨_, _, _, _, ⟨s, hs, rfl, rfl⟩, ⟨_, _, _, _, ⟨v, hv, rfl, hvw⟩, ⟨_, _, _, _, ⟨_, rfl, l, rfl, hw⟩, ⟨rfl, rfl⟩, rfl, rfl⟩, rfl, rfl⟩, rfl, rfl⟩, rfl, rfl⟩
    refine ⟨_, _, ⟨.mk k s v l, rfl, Nat.le_refl _⟩, ?_, ⟨Dle.refl _ _, Dle.refl _ _, Dle.refl _ _, Dle.refl _ _, Dle.refl _ _, Dle.refl _ _, Dle.refl _ _, Dle.refl _ _, Dle.refl _ _, trivial⟩⟩
    simp only [Cd.wt]
    omega
end
end Go.Proofs.YtkjflkbjepdaaaaGreatDoor
namespace Go.Proofs.YtkjflkbjepdaaaaGreatDoor
open Go.RowKit Go.WideShapes Go.ChangeShapes Go.ChangeAt
set_option linter.unusedVariables false
set_option linter.unusedSimpArgs false
/-- The words' variable and its row. -/
def WordsAt (g : Nat) (ws : List (List UInt8)) (b o c : Nat) (W : World) : Prop :=
  W.cell? ⟨g, 0, none⟩ = some (.slice (some ⟨b, o, none⟩) ws.length c) ∧ ∀ i l, ws[i]? = some l → W.cell? ⟨b, o + i, none⟩ = some (.string ⟨l.toArray⟩)
theorem words_at {P : Program} {W : World} {name : String} {ws : List (List UInt8)} {g : Nat} {t e : TypeId} (h0 : 0 < ws.length)
    (hg : P.globalNamed name = some g) (hty : (P.globals[g]?).map (·.type) = some t) (ht : P.underlying t = some (.slice e)) (he : P.underlying e = some .string) (hce : P.cellsOf e = 1) :
    ∀ (laid : List (String × DataW Unit)) (i : Nat) (ps : List MemPlace), laid[i]? = some (name, .slice (ws.map fun l => .lit (.string l)) []) → DataW.LaidVars P W laid ps → ∃ b o c, ws.length ≤ c ∧ c ≤ maxLen ∧ WordsAt g ws b o c W
  | [], i, _, h, _ => by simp at h
  | (n', d) :: r, 0, ps, h, hl => by
    simp at h
    obtain ⟨rfl, rfl⟩ := h
    obtain ⟨g', t', cs, fuel, p, q, hg', ht', hvar, hd, _, _⟩ := hl
    obtain rfl := Option.some.inj (hg.symm.trans hg')
    obtain rfl := Option.some.inj (hty.symm.trans ht')
    have hcell : ∀ k v, cs[k]? = some v → W.cell? ⟨g, k, none⟩ = some v := by
      intro k v hk
      unfold World.var? at hvar
      rw [hg] at hvar
      simp only [Option.bind_some] at hvar
      split at hvar
      · rename_i arr u v' hh
        injection hvar with hvar
        subst hvar
        unfold World.cell?
        simp [hh, hk]
      · cases hvar
    rcases DataW.trod_slice ht hd with ⟨_, hx⟩ | ⟨a, len, cap, elems, rest, n, hfu, hcs, hx, _, hl1, hm, hlen, hi, _⟩
    · injection hx with hx _
      cases hx
    · injection hx with hx _
      injection hx with hx1 hx2
      have hle : elems.length = ws.length := by
        have := congrArg List.length hx1
        simpa using this.symm
      have hlw : len = ws.length := by omega
      have hel : ∀ i (hi' : i < len), ∃ l x, ws[i]? = some l ∧ W.cells? 0 (a.add (i * P.cellsOf e)) (P.cellsOf e) = some [x] ∧ x = .string ⟨l.toArray⟩ := by
        intro i hi'
        have h1 := hi i hi'
        obtain ⟨el, hel⟩ : ∃ el, elems[i]? = some el := ⟨_, List.getElem?_eq_getElem (by omega)⟩
        rw [hel] at h1
        have h2 : (elems.map (·.1))[i]? = some el.1 := by rw [List.getElem?_map, hel]; rfl
        rw [← hx1, List.getElem?_map] at h2
        cases hw : ws[i]? with
        | none => rw [hw] at h2; cases h2
        | some l =>
          rw [hw] at h2
          injection h2 with h2
          cases hc : W.cells? 0 (a.add (i * P.cellsOf e)) (P.cellsOf e) with
          | none => rw [hc] at h1; cases h1
          | some xs =>
            rw [hc] at h1
            obtain ⟨s, hs1, hs2, _⟩ := DataW.trod_string he h1
            rw [hs2] at h2
            injection h2 with h2
            injection h2 with h2
            refine ⟨l, .string s, rfl, ?_, ?_⟩
            · rw [hs1]
            · rw [h2]
      have hs0 : a.spot = none := by
        obtain ⟨l, x, _, h1, _⟩ := hel 0 (by omega)
        obtain ⟨_, _, h2⟩ := World.cells?_some h1
        have h3 := h2 0 (by omega)
        have := World.cell?_spot (h3.trans (by rfl))
        simpa [Addr.add] using this
      obtain ⟨b, o, spot⟩ := a
      simp only at hs0
      subst hs0
      refine ⟨b, o, cap, by omega, hm, ?_, fun i l hil => ?_⟩
      · refine hcell 0 _ ?_
        rw [← Array.getElem?_toList, hcs, ← hlw]
        rfl
      · have hil' : i < len := by
          have := (List.getElem?_eq_some_iff.1 hil).1
          omega
        obtain ⟨l', x, h1, h2, h3⟩ := hel i hil'
        rw [hil] at h1
        injection h1 with h1
        subst h1
        obtain ⟨_, _, h4⟩ := World.cells?_some h2
        have h5 := h4 0 (by omega)
        rw [Go.Deep.add_add, Go.WideShapes.add_plain, hce, Nat.mul_one, Nat.add_zero] at h5
        rw [h5, h3]
        rfl
  | (n', d) :: r, i + 1, ps, h, hl => by
    obtain ⟨g', t', cs, fuel, p, q, _, _, _, _, hr, _⟩ := hl
    exact words_at h0 hg hty ht he hce r i q (by simpa using h) hr
end Go.Proofs.YtkjflkbjepdaaaaGreatDoor
namespace Go.Proofs.YtkjflkbjepdaaaaGreatDoor
open Go.RowKit
set_option linter.unusedVariables false
set_option linter.unusedSimpArgs false
def wordsL : List (List UInt8) := [[97, 110, 100], [111, 114], [110, 111, 116], [104, 97, 115], [105, 110], [98, 101, 103, 105, 110, 115]]
/-- Memory holds MaxLen and the words. -/
def WG (b o c : Nat) (W : World) : Prop := ML W ∧ 6 ≤ c ∧ c ≤ maxLen ∧ WordsAt 0 wordsL b o c W
def wN (b : Nat) : Nat := 2 + 0 + b + 1
theorem WG.lt {b o c : Nat} {W : World} (h : WG b o c W) : 2 < W.heap.size ∧ 0 < W.heap.size ∧ b < W.heap.size := by
  obtain ⟨h1, _, _, h2, h3⟩ := h
  exact ⟨h1.lt, World.block_lt_of_cell? W ⟨_, 0, none⟩ h2, World.block_lt_of_cell? W ⟨b, o + 0, none⟩ (h3 0 _ rfl)⟩
/-- Blocks up to the highest of the three. -/
def wM (b : Nat) : Nat := max (max 2 0) b + 1
theorem WG.kp {b o c : Nat} {W W' : World} (h : WG b o c W) (hk : Kp (wM b) noS W W') : WG b o c W' := by
  obtain ⟨⟨m, h1⟩, h4, h5, h2, h3⟩ := h
  refine ⟨⟨m, (hk.cell (by unfold wM; omega) (fun h => h)).trans h1⟩, h4, h5, (hk.cell (by unfold wM; omega) (fun h => h)).trans h2, fun i l hi => (hk.cell (by unfold wM; omega) (fun h => h)).trans (h3 i l hi)⟩
def env0 (b o c : Nat) : Env := ⟨wM b, WG b o c, fun w h => by have := h.lt; unfold wM; omega, fun w w' h hk => h.kp hk, fun b' _ => b' = 0 ∨ b' = b, fun b' _ h => by unfold wM; omega, fun _ => .opq, fun _ _ _ => .opq⟩
theorem words_gv (b o c : Nat) (W : World) (h : WG b o c W) (g : Nat) : Rep view (fun b' _ => b' = 0 ∨ b' = b) W b0 (wordsGv g) (.pointer (some ⟨g, 0, none⟩)) := by
  obtain ⟨_, h4, h5, h2, h3⟩ := h
  unfold wordsGv
  cases hb : Nat.beq g 0
  · exact .opq
  · have hb := Nat.eq_of_beq_eq_true hb
    subst hb
    refine .ref (fun _ => .slice (some ⟨b, o, none⟩) wordsL.length c) (fun j hj => ?_) (fun j hj => ?_)
    · obtain rfl : j = 0 := by omega
      exact ⟨.inl rfl, h2, rfl⟩
    · refine .sl (fun i _ => .string (resWords.getD i ⟨#[]⟩)) h4 h5 (by decide) (fun i j hi hj => ?_) (fun i j hi hj => ?_)
      · obtain rfl : j = 0 := by omega
        refine ⟨.inr rfl, ?_, rfl⟩
        rw [Nat.mul_one, Nat.add_zero]
        have hi : i < 6 := hi
        match i, hi with
        | 0, _ => exact h3 0 _ rfl
        | 1, _ => exact h3 1 _ rfl
        | 2, _ => exact h3 2 _ rfl
        | 3, _ => exact h3 3 _ rfl
        | 4, _ => exact h3 4 _ rfl
        | 5, _ => exact h3 5 _ rfl
      · have hi : i < 6 := hi
        match i, hi with
        | 0, _ => exact .v (by decide)
        | 1, _ => exact .v (by decide)
        | 2, _ => exact .v (by decide)
        | 3, _ => exact .v (by decide)
        | 4, _ => exact .v (by decide)
        | 5, _ => exact .v (by decide)
end Go.Proofs.YtkjflkbjepdaaaaGreatDoor
