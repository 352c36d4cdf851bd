/-
  list.Cond as an argument. A listed variable that holds a slice of strings: what the list says of memory. CondWrites: what it may count on; the law's walk.
-/
import Derived.Test.YtemiaognopgnnaaGreatDoorPV
import Derived.Test.YtemiaognopgnnaaGreatDoorW3
import Derived.Test.YtemiaognopgnnaaGreatDoorCard
import Derived.Test.YtemiaognopgnnaaGreatDoorCw6
namespace Go.Proofs.YtemiaognopgnnaaGreatDoor
open Go.RowKit
set_option linter.unusedVariables false
section
variable (E : Env)
/-- Readings of conditions, one by one. -/
theorem conds_of : ∀ (l : List (List DD × Nat)), (∀ x ∈ l, (∃ c : Cd, x.1 = (encC c).cells ∧ c.wt ≤ x.2) ∧ x.1.length = 9) → ∃ cs : List Cd, cs.length = l.length ∧ (∀ i, i < l.length → (l.getD i ([], 0)).1 = (encC (cs.getD i .zero)).cells) ∧ Cd.wtL cs ≤ (l.map (·.2)).sum
  | [], _ => ⟨[], rfl, fun i hi => by simp at hi, Nat.zero_le _⟩
  | x :: l, h => by
    obtain ⟨vs, h2, h3, h4⟩ := conds_of l (fun y hy => h y (List.mem_cons_of_mem _ hy))
    obtain ⟨⟨v, h6, h7⟩, _⟩ := h x List.mem_cons_self
    refine ⟨v :: vs, by simp [h2], fun i hi => ?_, ?_⟩
    · match i, hi with
      | 0, _ => exact h6
      | i + 1, hi => exact h3 i (by simpa using hi)
    · simp only [Cd.wtL, List.map_cons, List.sum_cons]
      omega
theorem ccell_eq (v : Cd) (j : Nat) (hj : j < 9) : (encC v).cells.getD j .opq = v.cell j := by
  match j, hj with
  | 0, _ => rfl
  | 1, _ => rfl
  | 2, _ => rfl
  | 3, _ => rfl
  | 4, _ => rfl
  | 5, _ => rfl
  | 6, _ => rfl
  | 7, _ => rfl
  | 8, _ => rfl
theorem opn_conds {N : Nat} (h : Opn (cx Tryz.prog mixed tyT_ok E) N 37 (fun ds n => ∃ c : Cd, ds = (encC c).cells ∧ c.wt ≤ n)) :
    Opn (cx Tryz.prog mixed tyT_ok E) (N + 1) 35 (fun ds n => ∃ d : DD, ds = [d] ∧ ∃ l : List Cd, d = .rc (.conds l) ∧ Cd.wtL l ≤ n) := by
  refine Opn.mono (opn_slice (X := (cx Tryz.prog mixed tyT_ok E)) Tryz.underlying35 (by kernel_rfl) h) ?_
  rintro ds n ⟨l, hl, hb, rfl, rfl⟩
  obtain ⟨vs, h2, h3, h4⟩ := conds_of l hl
  refine ⟨_, _, ⟨_, rfl, vs, rfl, h4⟩, Nat.le_refl _, ⟨Dle.rc (X := (cx Tryz.prog mixed tyT_ok E)) ?_, trivial⟩⟩
  refine Dle.sl (X := (cx Tryz.prog mixed tyT_ok E)) (show l.length = vs.length from h2.symm) (fun i j hi hj => Dle.of_eq ?_)
  rw [h3 i hi]
  exact ccell_eq _ _ hj
theorem opn_cond : ∀ N, Opn (cx Tryz.prog mixed tyT_ok E) N 37 (fun ds n => ∃ c : Cd, ds = (encC c).cells ∧ c.wt ≤ n)
  | 0 => opn_zero
  | N + 1 => by
    refine Opn.mono (opn_struct (X := (cx Tryz.prog mixed tyT_ok E)) (N := N) Tryz.underlying37 (by kernel_rfl) (by kernel_rfl) (by kernel_rfl) (Rs := [_, _, _, _])
      ⟨opn_int (X := (cx Tryz.prog mixed tyT_ok E)) Tryz.underlying3, opn_str (X := (cx Tryz.prog mixed tyT_ok E)) Tryz.underlying9, opn_val E N, Opn.le (opn_conds E (opn_cond N)) (Nat.le_succ _), trivial⟩) ?_
    rintro ds n ⟨_, _, _, _, ⟨k, hk, rfl, rfl⟩, ⟨_, _, _, _, ⟨s, hs, rfl, rfl⟩, ⟨_, _, _, _, ⟨v, hv, rfl, hvw⟩, ⟨_, _, _, _, ⟨_, rfl, l, rfl, hw⟩, ⟨rfl, rfl⟩, rfl, rfl⟩, rfl, rfl⟩, rfl, rfl⟩, rfl, rfl⟩
    refine ⟨_, _, ⟨.mk k s v l, rfl, Nat.le_refl _⟩, ?_, ⟨Dle.refl _ _, Dle.refl _ _, Dle.refl _ _, Dle.refl _ _, Dle.refl _ _, Dle.refl _ _, Dle.refl _ _, Dle.refl _ _, Dle.refl _ _, trivial⟩⟩
    simp only [Cd.wt]
    omega
end
end Go.Proofs.YtemiaognopgnnaaGreatDoor
namespace Go.Proofs.YtemiaognopgnnaaGreatDoor
open Go.RowKit Go.WideShapes Go.ChangeShapes Go.ChangeAt
set_option linter.unusedVariables false
set_option linter.unusedSimpArgs false
/-- The words' variable and its row. -/
def WordsAt (g : Nat) (ws : List (List UInt8)) (b o c : Nat) (W : World) : Prop :=
  W.cell? ⟨g, 0, none⟩ = some (.slice (some ⟨b, o, none⟩) ws.length c) ∧ ∀ i l, ws[i]? = some l → W.cell? ⟨b, o + i, none⟩ = some (.string ⟨l.toArray⟩)
theorem words_at {P : Program} {W : World} {name : String} {ws : List (List UInt8)} {g : Nat} {t e : TypeId} (h0 : 0 < ws.length)
    (hg : P.globalNamed name = some g) (hty : (P.globals[g]?).map (·.type) = some t) (ht : P.underlying t = some (.slice e)) (he : P.underlying e = some .string) (hce : P.cellsOf e = 1) :
    ∀ (laid : List (String × DataW Unit)) (i : Nat) (ps : List MemPlace), laid[i]? = some (name, .slice (ws.map fun l => .lit (.string l)) []) → DataW.LaidVars P W laid ps → ∃ b o c, ws.length ≤ c ∧ c ≤ maxLen ∧ WordsAt g ws b o c W
  | [], i, _, h, _ => by simp at h
  | (n', d) :: r, 0, ps, h, hl => by
    simp at h
    obtain ⟨rfl, rfl⟩ := h
    obtain ⟨g', t', cs, fuel, p, q, hg', ht', hvar, hd, _, _⟩ := hl
    obtain rfl := Option.some.inj (hg.symm.trans hg')
    obtain rfl := Option.some.inj (hty.symm.trans ht')
    have hcell : ∀ k v, cs[k]? = some v → W.cell? ⟨g, k, none⟩ = some v := by
      intro k v hk
      unfold World.var? at hvar
      rw [hg] at hvar
      simp only [Option.bind_some] at hvar
      split at hvar
      · rename_i arr u v' hh
        injection hvar with hvar
        subst hvar
        unfold World.cell?
        simp [hh, hk]
      · cases hvar
    rcases DataW.trod_slice ht hd with ⟨_, hx⟩ | ⟨a, len, cap, elems, rest, n, hfu, hcs, hx, _, hl1, hm, hlen, hi, _⟩
    · injection hx with hx _
      cases hx
    · injection hx with hx _
      injection hx with hx1 hx2
      have hle : elems.length = ws.length := by
        have := congrArg List.length hx1
        simpa using this.symm
      have hlw : len = ws.length := by omega
      have hel : ∀ i (hi' : i < len), ∃ l x, ws[i]? = some l ∧ W.cells? 0 (a.add (i * P.cellsOf e)) (P.cellsOf e) = some [x] ∧ x = .string ⟨l.toArray⟩ := by
        intro i hi'
        have h1 := hi i hi'
        obtain ⟨el, hel⟩ : ∃ el, elems[i]? = some el := ⟨_, List.getElem?_eq_getElem (by omega)⟩
        rw [hel] at h1
        have h2 : (elems.map (·.1))[i]? = some el.1 := by rw [List.getElem?_map, hel]; rfl
        rw [← hx1, List.getElem?_map] at h2
        cases hw : ws[i]? with
        | none => rw [hw] at h2; cases h2
        | some l =>
          rw [hw] at h2
          injection h2 with h2
          cases hc : W.cells? 0 (a.add (i * P.cellsOf e)) (P.cellsOf e) with
          | none => rw [hc] at h1; cases h1
          | some xs =>
            rw [hc] at h1
            obtain ⟨s, hs1, hs2, _⟩ := DataW.trod_string he h1
            rw [hs2] at h2
            injection h2 with h2
            injection h2 with h2
            refine ⟨l, .string s, rfl, ?_, ?_⟩
            · rw [hs1]
            · rw [h2]
      have hs0 : a.spot = none := by
        obtain ⟨l, x, _, h1, _⟩ := hel 0 (by omega)
        obtain ⟨_, _, h2⟩ := World.cells?_some h1
        have h3 := h2 0 (by omega)
        have := World.cell?_spot (h3.trans (by rfl))
        simpa [Addr.add] using this
      obtain ⟨b, o, spot⟩ := a
      simp only at hs0
      subst hs0
      refine ⟨b, o, cap, by omega, hm, ?_, fun i l hil => ?_⟩
      · refine hcell 0 _ ?_
        rw [← Array.getElem?_toList, hcs, ← hlw]
        rfl
      · have hil' : i < len := by
          have := (List.getElem?_eq_some_iff.1 hil).1
          omega
        obtain ⟨l', x, h1, h2, h3⟩ := hel i hil'
        rw [hil] at h1
        injection h1 with h1
        subst h1
        obtain ⟨_, _, h4⟩ := World.cells?_some h2
        have h5 := h4 0 (by omega)
        rw [Go.Deep.add_add, Go.WideShapes.add_plain, hce, Nat.mul_one, Nat.add_zero] at h5
        rw [h5, h3]
        rfl
  | (n', d) :: r, i + 1, ps, h, hl => by
    obtain ⟨g', t', cs, fuel, p, q, _, _, _, _, hr, _⟩ := hl
    exact words_at h0 hg hty ht he hce r i q (by simpa using h) hr
end Go.Proofs.YtemiaognopgnnaaGreatDoor
namespace Go.Proofs.YtemiaognopgnnaaGreatDoor
open Go.RowKit
set_option linter.unusedVariables false
set_option linter.unusedSimpArgs false
namespace cw
open rp bl pn
def wordsL : List (List UInt8) := [[97, 110, 100], [111, 114], [110, 111, 116], [104, 97, 115], [105, 110], [98, 101, 103, 105, 110, 115]]
def opL : List (List UInt8) := [[], [], [], [], [], [61], [33, 61], [60], [60, 61], [62], [62, 61], [104, 97, 115], [105, 110], [98, 101, 103, 105, 110, 115]]
/-- Where the two rows of words lie. -/
structure Pl where
  b : Nat
  o : Nat
  c : Nat
  b2 : Nat
  o2 : Nat
  c2 : Nat
def CG (p : Pl) (W : World) : Prop := ML W ∧ P10 W ∧ (6 ≤ p.c ∧ p.c ≤ maxLen ∧ WordsAt 1 wordsL p.b p.o p.c W) ∧ (14 ≤ p.c2 ∧ p.c2 ≤ maxLen ∧ WordsAt 0 opL p.b2 p.o2 p.c2 W)
theorem CG.lt {p : Pl} {W : World} (h : CG p W) : 2 < W.heap.size ∧ 5 < W.heap.size ∧ 1 < W.heap.size ∧ p.b < W.heap.size ∧ 0 < W.heap.size ∧ p.b2 < W.heap.size := by
  obtain ⟨h1, h0, ⟨_, _, h2, h3⟩, ⟨_, _, h4, h5⟩⟩ := h
  exact ⟨h1.lt, h0.lt, World.block_lt_of_cell? W ⟨_, 0, none⟩ h2, World.block_lt_of_cell? W ⟨p.b, p.o + 0, none⟩ (h3 0 _ rfl), World.block_lt_of_cell? W ⟨_, 0, none⟩ h4, World.block_lt_of_cell? W ⟨p.b2, p.o2 + 0, none⟩ (h5 0 _ rfl)⟩
def nM (p : Pl) : Nat := max (max (max 2 1) (max 0 p.b)) (max p.b2 5) + 1
theorem CG.kp {p : Pl} {W W' : World} (h : CG p W) (hk : Kp (nM p) noS W W') : CG p W' := by
  obtain ⟨⟨m, h1⟩, h0, ⟨q1, q2, h2, h3⟩, ⟨q3, q4, h4, h5⟩⟩ := h
  refine ⟨⟨m, (hk.cell (by unfold nM; omega) (fun h => h)).trans h1⟩, h0.kp (by unfold nM; omega) hk, ⟨q1, q2, (hk.cell (by unfold nM; omega) (fun h => h)).trans h2, fun i l hi => (hk.cell (by unfold nM; omega) (fun h => h)).trans (h3 i l hi)⟩, ⟨q3, q4, (hk.cell (by unfold nM; omega) (fun h => h)).trans h4, fun i l hi => (hk.cell (by unfold nM; omega) (fun h => h)).trans (h5 i l hi)⟩⟩
def nMG (p : Pl) (b' : Nat) : Prop := b' = 1 ∨ b' = p.b ∨ b' = 0 ∨ b' = p.b2
def env0 (p : Pl) : Env := ⟨nM p, CG p, fun w h => by have := h.lt; unfold nM; omega, fun w w' h hk => h.kp hk, fun b' _ => nMG p b', fun b' _ h => by unfold nMG at h; unfold nM; omega, fun _ => .opq, fun _ _ _ => .opq⟩
theorem words_rep (p : Pl) (W : World) (g b o c : Nat) (ws : List (List UInt8)) (bs : List ByteArray) (hbs : ws.map (fun l => (⟨l.toArray⟩ : ByteArray)) = bs) (hsm : ∀ s ∈ bs, s.size ≤ 100) (hn : bs.length ≤ 100) (hM1 : nMG p g) (hM2 : nMG p b) (h4 : ws.length ≤ c) (h5 : c ≤ maxLen) (h : WordsAt g ws b o c W) : Rep view (fun b' _ => nMG p b') W b0 (.ref 1 (fun _ => encStrs bs)) (.pointer (some ⟨g, 0, none⟩)) := by
  obtain ⟨h2, h3⟩ := h
  have hl : bs.length = ws.length := by rw [← hbs, List.length_map]
  refine .ref (fun _ => .slice (some ⟨b, o, none⟩) ws.length c) (fun j hj => ?_) (fun j hj => ?_)
  · obtain rfl : j = 0 := by omega
    exact ⟨hM1, h2, rfl⟩
  · show Rep view _ W b0 (encStrs bs) (.slice (some ⟨b, o, none⟩) ws.length c)
    rw [← hl]
    refine .sl (fun i _ => .string (bs.getD i ⟨#[]⟩)) (by omega) h5 (by omega) (fun i j hi hj => ?_) (fun i j hi hj => ?_)
    · obtain rfl : j = 0 := by omega
      refine ⟨hM2, ?_, rfl⟩
      rw [Nat.mul_one, Nat.add_zero]
      obtain ⟨l, hw⟩ : ∃ l, ws[i]? = some l := ⟨_, List.getElem?_eq_getElem (show i < ws.length by omega)⟩
      have hbi : bs.getD i ⟨#[]⟩ = ⟨l.toArray⟩ := by
        subst hbs
        rw [List.getD_eq_getElem?_getD, List.getElem?_map, hw]
        rfl
      rw [hbi]
      exact h3 i _ hw
    · have hm : bs.getD i ⟨#[]⟩ ∈ bs := getD_mem bs _ i hi
      have := hsm _ hm
      exact .v (decide_eq_true (by show (bs.getD i ⟨#[]⟩).size ≤ maxLen; unfold maxLen; omega))
theorem words_gv (p : Pl) (W : World) (h : CG p W) (g : Nat) : Rep view (fun b' _ => nMG p b') W b0 (wordsGv g) (.pointer (some ⟨g, 0, none⟩)) := by
  obtain ⟨_, _, ⟨q1, q2, h2⟩, ⟨q3, q4, h4⟩⟩ := h
  unfold wordsGv
  cases hb : Nat.beq g 1
  · cases hb2 : Nat.beq g 0
    · exact .opq
    · have hb2 := Nat.eq_of_beq_eq_true hb2
      subst hb2
      exact words_rep p W _ _ _ _ opL opNames rfl (by decide) (by decide) (.inr (.inr (.inl rfl))) (.inr (.inr (.inr rfl))) q3 q4 h4
  · have hb := Nat.eq_of_beq_eq_true hb
    subst hb
    exact words_rep p W _ _ _ _ wordsL resWords rfl (by decide) (by decide) (.inl rfl) (.inr (.inl rfl)) q1 q2 h2
section
variable (E : Env)
set_option maxRecDepth 100000
theorem conds_ofI : ∀ (l : List (List DD × Nat)), (∀ x ∈ l, (∃ c : Cd, i64C c ∧ x.1 = (encC c).cells ∧ c.wt ≤ x.2) ∧ x.1.length = 9) → ∃ cs : List Cd, i64Cs cs ∧ cs.length = l.length ∧ (∀ i, i < l.length → (l.getD i ([], 0)).1 = (encC (cs.getD i .zero)).cells) ∧ Cd.wtL cs ≤ (l.map (·.2)).sum
  | [], _ => ⟨[], trivial, rfl, fun i hi => by simp at hi, Nat.zero_le _⟩
  | x :: l, h => by
    obtain ⟨vs, h1, h2, h3, h4⟩ := conds_ofI l (fun y hy => h y (List.mem_cons_of_mem _ hy))
    obtain ⟨⟨v, h5, h6, h7⟩, _⟩ := h x List.mem_cons_self
    refine ⟨v :: vs, ⟨h5, h1⟩, by simp [h2], fun i hi => ?_, ?_⟩
    · match i, hi with
      | 0, _ => exact h6
      | i + 1, hi => exact h3 i (by simpa using hi)
    · simp only [Cd.wtL, List.map_cons, List.sum_cons]
      omega
theorem opn_condsI {N : Nat} (h : Opn (cx Tryz.prog mixed tyT_ok E) N 37 (fun ds n => ∃ c : Cd, i64C c ∧ ds = (encC c).cells ∧ c.wt ≤ n)) :
    Opn (cx Tryz.prog mixed tyT_ok E) (N + 1) 35 (fun ds n => ∃ d : DD, ds = [d] ∧ ∃ l : List Cd, i64Cs l ∧ d = .rc (.conds l) ∧ Cd.wtL l ≤ n) := by
  refine Opn.mono (opn_slice (X := (cx Tryz.prog mixed tyT_ok E)) Tryz.underlying35 (by kernel_rfl) h) ?_
  rintro ds n ⟨l, hl, hb, rfl, rfl⟩
  obtain ⟨vs, h1, h2, h3, h4⟩ := conds_ofI l hl
  refine ⟨_, _, ⟨_, rfl, vs, h1, rfl, h4⟩, Nat.le_refl _, ⟨Dle.rc (X := (cx Tryz.prog mixed tyT_ok E)) ?_, trivial⟩⟩
  refine Dle.sl (X := (cx Tryz.prog mixed tyT_ok E)) (show l.length = vs.length from h2.symm) (fun i j hi hj => Dle.of_eq ?_)
  rw [h3 i hi]
  exact ccell_eq _ _ hj
theorem opn_condI : ∀ N, Opn (cx Tryz.prog mixed tyT_ok E) N 37 (fun ds n => ∃ c : Cd, i64C c ∧ ds = (encC c).cells ∧ c.wt ≤ n)
  | 0 => opn_zero
  | N + 1 => by
    refine Opn.mono (opn_struct (X := (cx Tryz.prog mixed tyT_ok E)) (N := N) Tryz.underlying37 (by kernel_rfl) (by kernel_rfl) (by kernel_rfl) (Rs := [_, _, _, _])
      ⟨opn_int (X := (cx Tryz.prog mixed tyT_ok E)) Tryz.underlying3, opn_str (X := (cx Tryz.prog mixed tyT_ok E)) Tryz.underlying9, opn_val E N, Opn.le (opn_condsI E (opn_condI N)) (Nat.le_succ _), trivial⟩) ?_
    rintro ds n ⟨_, _, _, _, ⟨k, hk, rfl, rfl⟩, ⟨_, _, _, _, ⟨s, hs, rfl, rfl⟩, ⟨_, _, _, _, ⟨v, hv, rfl, hvw⟩, ⟨_, _, _, _, ⟨_, rfl, l, hil, rfl, hw⟩, ⟨rfl, rfl⟩, rfl, rfl⟩, rfl, rfl⟩, rfl, rfl⟩, rfl, rfl⟩
    refine ⟨_, _, ⟨.mk k s v l, ⟨hv, hil⟩, rfl, Nat.le_refl _⟩, ?_, ⟨Dle.refl _ _, Dle.refl _ _, Dle.refl _ _, Dle.refl _ _, Dle.refl _ _, Dle.refl _ _, Dle.refl _ _, Dle.refl _ _, Dle.refl _ _, trivial⟩⟩
    simp only [Cd.wt]
    omega
/-- What CondString answers. -/
noncomputable def csR (c : Cd) : ByteArray × Int := if condCheck c ≠ 0 then (⟨#[]⟩, condCheck c) else if 5000 < (cdB c).length then (⟨#[]⟩, 4) else (bs (cdB c), 0)
theorem check_zero {c : Cd} (h : condCheck c = 0) : condE c = 0 := by
  unfold condCheck at h
  split at h
  · omega
  · split at h
    · omega
    · exact h
theorem condString_sp (hP : ∀ w, E.G w → P10 w) (c : Cd) (hi : i64C c) (hw : c.wt ≤ 100000000) : Sp (cx Tryz.prog mixed tyT_ok E) 20 [encC c] (.tup [dS (csR c).1, i64 (csR c).2]) := by
  have h1 := checkCond_sp E c hw
  unfold csR
  by_cases hc : condCheck c = 0
  · have h2 := condText_sp E hP _ c (Nat.lt_succ_self _) (check_zero hc) hi hw
    have h3 := bs_size (cdB c)
    rw [if_neg (c := condCheck c ≠ 0) (fun h => h hc)]
    by_cases hl : 5000 < (cdB c).length
    · rw [if_pos hl]
      generalize condCheck c = e at h1 hc
      refine Sp.body Tryz.func20 (by kernel_rfl) rfl (by kernel_rfl) (by kernel_rfl) (by kernel_rfl) ?_
      repeat' first
        | (refine codeW_cond rfl ?_; first | (refine condW_dec ?_ ?_ <;> intro _ <;> try (exfalso; omega)) | refine condW_not ?_ | (refine condW_bool ?_ ?_ <;> intro _ <;> try (exfalso; omega)))
        | (refine facW_intro ?_; intro _)
        | refine Or.inl ?_
        | ((conv => whnf); first | (refine condW_dec ?_ ?_ <;> intro _ <;> try (exfalso; omega)) | refine condW_not ?_ | (refine condW_bool ?_ ?_ <;> intro _ <;> try (exfalso; omega)) | (refine nbC_t (fun _ => ?_) ?_) | (refine nbC_f ?_ (fun _ => ?_)))
        | refine And.intro (by first | omega | (simp only [Int.toNat_natCast] at *; omega) | (simp only [Nat.reduceAdd, Int.cast_ofNat_Int, true_and, and_true]; omega)  | kernel_rfl) ?_
        | refine RegW.run ?_
        | refine ⟨_, h1, ?_⟩
        | refine ⟨_, h2, ?_⟩
        | fail
      all_goals first
        | (exfalso; omega)
        | exact Dle.refl _ _
        | trace_state
    · rw [if_neg hl]
      generalize condCheck c = e at h1 hc
      refine Sp.body Tryz.func20 (by kernel_rfl) rfl (by kernel_rfl) (by kernel_rfl) (by kernel_rfl) ?_
      repeat' first
        | (refine codeW_cond rfl ?_; first | (refine condW_dec ?_ ?_ <;> intro _ <;> try (exfalso; omega)) | refine condW_not ?_ | (refine condW_bool ?_ ?_ <;> intro _ <;> try (exfalso; omega)))
        | (refine facW_intro ?_; intro _)
        | refine Or.inl ?_
        | ((conv => whnf); first | (refine condW_dec ?_ ?_ <;> intro _ <;> try (exfalso; omega)) | refine condW_not ?_ | (refine condW_bool ?_ ?_ <;> intro _ <;> try (exfalso; omega)) | (refine nbC_t (fun _ => ?_) ?_) | (refine nbC_f ?_ (fun _ => ?_)))
        | refine And.intro (by first | omega | (simp only [Int.toNat_natCast] at *; omega) | (simp only [Nat.reduceAdd, Int.cast_ofNat_Int, true_and, and_true]; omega)  | kernel_rfl) ?_
        | refine RegW.run ?_
        | refine ⟨_, h1, ?_⟩
        | refine ⟨_, h2, ?_⟩
        | fail
      all_goals first
        | (exfalso; omega)
        | exact Dle.refl _ _
        | trace_state
  · rw [if_pos hc]
    generalize condCheck c = e at h1 hc
    refine Sp.body Tryz.func20 (by kernel_rfl) rfl (by kernel_rfl) (by kernel_rfl) (by kernel_rfl) ?_
    repeat' first
      | (refine codeW_cond rfl ?_; first | (refine condW_dec ?_ ?_ <;> intro _ <;> try (exfalso; omega)) | refine condW_not ?_ | (refine condW_bool ?_ ?_ <;> intro _ <;> try (exfalso; omega)))
      | (refine facW_intro ?_; intro _)
      | refine Or.inl ?_
      | ((conv => whnf); first | (refine condW_dec ?_ ?_ <;> intro _ <;> try (exfalso; omega)) | refine condW_not ?_ | (refine condW_bool ?_ ?_ <;> intro _ <;> try (exfalso; omega)) | (refine nbC_t (fun _ => ?_) ?_) | (refine nbC_f ?_ (fun _ => ?_)))
      | refine And.intro (by first | omega | (simp only [Int.toNat_natCast] at *; omega) | (simp only [Nat.reduceAdd, Int.cast_ofNat_Int, true_and, and_true]; omega)  | kernel_rfl) ?_
      | refine RegW.run ?_
      | refine ⟨_, h1, ?_⟩
      | fail
    all_goals first
      | (exfalso; omega)
      | exact Dle.refl _ _
      | trace_state
theorem condStringOf_sp (E0 : Env) (hg : ∀ w, E0.G w → ∀ g, Rep view E0.MG w b0 (wordsGv g) (.pointer (some ⟨g, 0, none⟩))) (hE : E = wEnv E0 hg) (hML : ∀ w, E.G w → ML w) (hP : ∀ w, E.G w → P10 w) (c : Cd) (hi : i64C c) (hw : c.wt ≤ 100000000) : Sp (cx Tryz.prog mixed tyT_ok E) 21 [encC c] (.tup [dS (csR c).1, i64 (csR c).2]) := by
  have h1 := refCondFault_sp E0 hg E hE hML c hw
  unfold csR
  by_cases hc : condCheck c = 0
  · have h2 := condTextR_sp E E0 hg hE hP _ c (Nat.lt_succ_self _) (check_zero hc) hi hw
    have h3 := bs_size (cdB c)
    rw [if_neg (c := condCheck c ≠ 0) (fun h => h hc)]
    by_cases hl : 5000 < (cdB c).length
    · rw [if_pos hl]
      generalize condCheck c = e at h1 hc
      refine Sp.body Tryz.func21 (by kernel_rfl) rfl (by kernel_rfl) (by kernel_rfl) (by kernel_rfl) ?_
      repeat' first
        | (refine codeW_cond rfl ?_; first | (refine condW_dec ?_ ?_ <;> intro _ <;> try (exfalso; omega)) | refine condW_not ?_ | (refine condW_bool ?_ ?_ <;> intro _ <;> try (exfalso; omega)))
        | (refine facW_intro ?_; intro _)
        | refine Or.inl ?_
        | ((conv => whnf); first | (refine condW_dec ?_ ?_ <;> intro _ <;> try (exfalso; omega)) | refine condW_not ?_ | (refine condW_bool ?_ ?_ <;> intro _ <;> try (exfalso; omega)) | (refine nbC_t (fun _ => ?_) ?_) | (refine nbC_f ?_ (fun _ => ?_)))
        | refine And.intro (by first | omega | (simp only [Int.toNat_natCast] at *; omega) | (simp only [Nat.reduceAdd, Int.cast_ofNat_Int, true_and, and_true]; omega)  | kernel_rfl) ?_
        | refine RegW.run ?_
        | refine ⟨_, h1, ?_⟩
        | refine ⟨_, h2, ?_⟩
        | fail
      all_goals first
        | (exfalso; omega)
        | exact Dle.refl _ _
        | trace_state
    · rw [if_neg hl]
      generalize condCheck c = e at h1 hc
      refine Sp.body Tryz.func21 (by kernel_rfl) rfl (by kernel_rfl) (by kernel_rfl) (by kernel_rfl) ?_
      repeat' first
        | (refine codeW_cond rfl ?_; first | (refine condW_dec ?_ ?_ <;> intro _ <;> try (exfalso; omega)) | refine condW_not ?_ | (refine condW_bool ?_ ?_ <;> intro _ <;> try (exfalso; omega)))
        | (refine facW_intro ?_; intro _)
        | refine Or.inl ?_
        | ((conv => whnf); first | (refine condW_dec ?_ ?_ <;> intro _ <;> try (exfalso; omega)) | refine condW_not ?_ | (refine condW_bool ?_ ?_ <;> intro _ <;> try (exfalso; omega)) | (refine nbC_t (fun _ => ?_) ?_) | (refine nbC_f ?_ (fun _ => ?_)))
        | refine And.intro (by first | omega | (simp only [Int.toNat_natCast] at *; omega) | (simp only [Nat.reduceAdd, Int.cast_ofNat_Int, true_and, and_true]; omega)  | kernel_rfl) ?_
        | refine RegW.run ?_
        | refine ⟨_, h1, ?_⟩
        | refine ⟨_, h2, ?_⟩
        | fail
      all_goals first
        | (exfalso; omega)
        | exact Dle.refl _ _
        | trace_state
  · rw [if_pos hc]
    generalize condCheck c = e at h1 hc
    refine Sp.body Tryz.func21 (by kernel_rfl) rfl (by kernel_rfl) (by kernel_rfl) (by kernel_rfl) ?_
    repeat' first
      | (refine codeW_cond rfl ?_; first | (refine condW_dec ?_ ?_ <;> intro _ <;> try (exfalso; omega)) | refine condW_not ?_ | (refine condW_bool ?_ ?_ <;> intro _ <;> try (exfalso; omega)))
      | (refine facW_intro ?_; intro _)
      | refine Or.inl ?_
      | ((conv => whnf); first | (refine condW_dec ?_ ?_ <;> intro _ <;> try (exfalso; omega)) | refine condW_not ?_ | (refine condW_bool ?_ ?_ <;> intro _ <;> try (exfalso; omega)) | (refine nbC_t (fun _ => ?_) ?_) | (refine nbC_f ?_ (fun _ => ?_)))
      | refine And.intro (by first | omega | (simp only [Int.toNat_natCast] at *; omega) | (simp only [Nat.reduceAdd, Int.cast_ofNat_Int, true_and, and_true]; omega)  | kernel_rfl) ?_
      | refine RegW.run ?_
      | refine ⟨_, h1, ?_⟩
      | fail
    all_goals first
      | (exfalso; omega)
      | exact Dle.refl _ _
      | trace_state
theorem condWrites_sp (E0 : Env) (hg : ∀ w, E0.G w → ∀ g, Rep view E0.MG w b0 (wordsGv g) (.pointer (some ⟨g, 0, none⟩))) (hE : E = wEnv E0 hg) (hML : ∀ w, E.G w → ML w) (hP : ∀ w, E.G w → P10 w) (c : Cd) (hi : i64C c) (hw : c.wt ≤ 100000000) : Sp (cx Tryz.prog mixed tyT_ok E) 6 [encC c] (dB true) := by
  have h1 := condString_sp E hP c hi hw
  have h2 := condStringOf_sp E E0 hg hE hML hP c hi hw
  generalize (csR c).1 = s at h1 h2
  generalize (csR c).2 = e at h1 h2
  refine Sp.body Tryz.func6 (by kernel_rfl) rfl (by kernel_rfl) (by kernel_rfl) (by kernel_rfl) ?_
  repeat' first
    | (refine codeW_cond rfl ?_; first | (refine condW_dec ?_ ?_ <;> intro _ <;> try (exfalso; omega)) | refine condW_not ?_ | (refine condW_bool ?_ ?_ <;> intro _ <;> try (exfalso; omega)))
    | (refine facW_intro ?_; intro _)
    | refine Or.inl ?_
    | ((conv => whnf); first | (refine condW_dec ?_ ?_ <;> intro _ <;> try (exfalso; omega)) | refine condW_not ?_ | (refine condW_bool ?_ ?_ <;> intro _ <;> try (exfalso; omega)) | (refine nbC_t (fun _ => ?_) ?_) | (refine nbC_f ?_ (fun _ => ?_)))
    | refine And.intro (by first | omega | (simp only [Int.toNat_natCast] at *; omega) | (simp only [Nat.reduceAdd, Int.cast_ofNat_Int, true_and, and_true]; omega)  | kernel_rfl) ?_
    | refine RegW.run ?_
    | refine ⟨_, h1, ?_⟩
    | refine ⟨_, h2, ?_⟩
    | fail
  all_goals first
    | exact Dle.bo (by simp)
    | (exfalso; rename_i h; exact h rfl)
    | trace_state
end
end cw
end Go.Proofs.YtemiaognopgnnaaGreatDoor
