/-
  lang.Test as a tree: what it reads as in memory; how an argument opens into it, with its number of tests below the reading's bulk.
-/
import Derived.Test.YtkldjnopapipfaaRows
import Derived.Test.YtkldjnopapipfaaL4
namespace Go.Proofs.Ytkldjnopapipfaa
open Go.RowKit

inductive Tst
  | mk (op mod low high : Int) (A : Option Addr) (n c : Nat) (kids : List Tst)

namespace Tst
def kids : Tst → List Tst | mk _ _ _ _ _ _ _ l => l
def op : Tst → Int | mk o _ _ _ _ _ _ _ => o
def cells : Tst → List Value | mk o m l h A n c _ => [.int .i64 o, .int .i64 m, .int .i64 l, .int .i64 h, .slice A n c]
def val (v : Tst) : Value := .agg v.cells.toArray
end Tst

/-- What a test reads as, with so many levels at most. -/
def TR (w : World) : Nat → Tst → Prop
  | 0, _ => False
  | N + 1, .mk o m l h A n c kids => In64 o ∧ In64 m ∧ In64 l ∧ In64 h ∧ kids.length = n ∧ SlOk A n c 56 ∧ Rd w 5 Tst.cells A kids ∧ ∀ x ∈ kids, TR w N x

theorem TR.mono {w : World} : ∀ {N M : Nat} {v : Tst}, N ≤ M → TR w N v → TR w M v
  | 0, _, _, _, h => by simp [TR] at h
  | N + 1, 0, _, hle, _ => by omega
  | N + 1, M + 1, .mk .., hle, h => by
    obtain ⟨h1, h2, h3, h4, h5, h6, h7, h8⟩ := h
    exact ⟨h1, h2, h3, h4, h5, h6, h7, fun x hx => TR.mono (by omega) (h8 x hx)⟩

theorem TR.keep {w w' : World} (hb : Below w.heap.size w w') : ∀ {N : Nat} {v : Tst}, TR w N v → TR w' N v
  | 0, _, h => by simp [TR] at h
  | N + 1, .mk .., h => by
    obtain ⟨h1, h2, h3, h4, h5, h6, h7, h8⟩ := h
    exact ⟨h1, h2, h3, h4, h5, h6, h7.keep hb, fun x hx => TR.keep hb (h8 x hx)⟩

/-- How many tests, and how many levels. -/
def cntN : Nat → Tst → Nat
  | 0, _ => 0
  | N + 1, .mk _ _ _ _ _ _ _ kids => 1 + (kids.map (cntN N)).sum
def lvN : Nat → Tst → Nat
  | 0, _ => 0
  | N + 1, .mk _ _ _ _ _ _ _ kids => (kids.map (lvN N)).foldl max 0 + 1

theorem cnt_mono : ∀ {N M : Nat} {w : World} {v : Tst}, N ≤ M → TR w N v → cntN M v = cntN N v
  | 0, _, _, _, _, h => by simp [TR] at h
  | N + 1, 0, _, _, hle, _ => by omega
  | N + 1, M + 1, w, .mk o m l h' A n c kids, hle, h => by
    obtain ⟨_, _, _, _, _, _, _, h8⟩ := h
    simp only [cntN]
    rw [List.map_congr_left fun x hx => cnt_mono (by omega) (h8 x hx)]

section
variable {H : Type} {enc : TypeId × Value → H} {P : Program} {W : World}

/-- A slice's reading, with the readings of its elements. -/
theorem trod_elems {fuel : Nat} {t e : TypeId} {cs : List Value} {y : DataW H × List MemPlace} (ht : P.underlying t = some (.slice e)) (hs : 0 < P.cellsOf e) (h : DataW.trod enc P W 0 (fun _ => true) true fuel t cs = some y) (hsz : Sz P t y.1) :
    ∃ (A : Option Addr) (n c : Nat) (l : List (List Value × DataW H)), cs = [.slice A n c] ∧ l.length = n ∧ SlOk A n c (P.bytesOf e) ∧ Rd W (P.cellsOf e) id A (l.map (·.1)) ∧
      (∀ x ∈ l, x.1.length = P.cellsOf e ∧ ∃ m z, m < fuel ∧ DataW.trod enc P W 0 (fun _ => true) true m e x.1 = some (x.2, z) ∧ Sz P e x.2) ∧ Rows.uptoBulkAll (l.map (·.2)) ≤ Rows.uptoBulk y.1 := by
  have hF : RdgF enc P W fuel t cs := ⟨y, h, hsz⟩
  rcases DataW.trod_slice ht h with ⟨hcs, hx⟩ | ⟨a, len, cap, elems, rest, n, hfu, hcs, hx, _, hl, hm, hlen, hi, hsp, _⟩
  · exact ⟨none, 0, 0, [], hcs, rfl, ⟨by omega, by omega, fun _ => rfl⟩, Rd.nil _ _ _ _, fun x hx => by simp at hx, by simp [Rows.uptoBulkAll]⟩
  · obtain ⟨A, n', c', l, e1, e2, e3, e4, e5⟩ := rdgF_slice ht hs hF
    rw [hcs] at e1
    injection e1 with e1 _
    injection e1 with h1 h2 h3
    subst h1 h2 h3
    have key : ∀ i, i < len → ∃ z, ∃ x d, l[i]? = some x ∧ (elems.map (·.1))[i]? = some d ∧ DataW.trod enc P W 0 (fun _ => true) true n e x = some (d, z) ∧ Sz P e d := by
      intro i hil
      have h1 := hi i hil
      obtain ⟨b, o, x, hA, hx1, hm1, hc1⟩ := e4.at_ (k := i) (by omega)
      injection hA with hA
      subst hA
      have hlx : x.length = P.cellsOf e := (e5 x hm1).1
      have hc1 : ∀ j v, x[j]? = some v → W.cell? ⟨b, o + i * P.cellsOf e + j, none⟩ = some v := hc1
      have hc2 : W.cells? 0 ((⟨b, o, none⟩ : Addr).add (i * P.cellsOf e)) (P.cellsOf e) = some x := by
        cases hc : W.cells? 0 ((⟨b, o, none⟩ : Addr).add (i * P.cellsOf e)) (P.cellsOf e) with
        | none =>
          rw [hc, List.getElem?_eq_getElem (by omega)] at h1
          simp at h1
        | some x' =>
          obtain ⟨_, hlen', h3⟩ := World.cells?_some hc
          congr 1
          apply List.ext_getElem?
          intro j
          by_cases hj : j < P.cellsOf e
          · have h4 := h3 j hj
            rw [Go.Deep.add_add, Go.WideShapes.add_plain] at h4
            have h5 := hc1 j (x[j]'(by omega)) (List.getElem?_eq_getElem (by omega))
            rw [Nat.add_assoc] at h5
            rw [h5] at h4
            rw [← h4, List.getElem?_eq_getElem (by omega)]
          · rw [List.getElem?_eq_none (by omega), List.getElem?_eq_none (by omega)]
      rw [hc2, List.getElem?_eq_getElem (by omega)] at h1
      refine ⟨(elems[i]'(by omega)).2, x, (elems[i]'(by omega)).1, hx1, ?_, h1, fun m hm' => hsz m ?_⟩
      · rw [List.getElem?_map, List.getElem?_eq_getElem (by omega)]; rfl
      · rw [hx]
        simp only [DataW.weights, ht, List.mem_cons, List.mem_append]
        exact .inr (.inl (sz_all (List.mem_map.2 ⟨_, List.getElem_mem _, rfl⟩) hm'))
    have hll : l.length = len := e2
    refine ⟨some a, len, cap, l.zip (elems.map (·.1)), hcs, by simp; omega, e3, ?_, ?_, ?_⟩
    · rw [List.map_fst_zip (by simp; omega)]
      exact e4
    · intro x hx'
      obtain ⟨i, hi', hxi⟩ := List.getElem_of_mem hx'
      have hil : i < len := by simp at hi'; omega
      obtain ⟨z, x', d, k1, k2, k3, k4⟩ := key i hil
      have k5 : (l.zip (elems.map (·.1)))[i]? = some (x', d) := by rw [List.getElem?_zip_eq_some]; exact ⟨k1, k2⟩
      rw [List.getElem?_eq_getElem hi', hxi] at k5
      injection k5 with k5
      subst k5
      exact ⟨(e5 x' (List.mem_of_getElem? k1)).1, n, z, by omega, k3, k4⟩
    · rw [List.map_snd_zip (by simp; omega), hx]
      simp only [Rows.uptoBulk]
      omega
end

theorem bulk_mem {H : Type} : ∀ {l : List (DataW H)} {d : DataW H}, d ∈ l → Rows.uptoBulk d ≤ Rows.uptoBulkAll l
  | [], _, h => by cases h
  | a :: l, d, h => by
    simp only [Rows.uptoBulkAll]
    rcases List.mem_cons.1 h with rfl | h
    · omega
    · have := bulk_mem h
      omega

/-- The tests made out of readings, one by one. -/
theorem tst_list {H : Type} (good : Tst → Prop) (cnt : Tst → Nat) : ∀ (l : List (List Value × DataW H)), (∀ x ∈ l, ∃ t, x.1 = Tst.cells t ∧ good t ∧ cnt t ≤ Rows.uptoBulk x.2) →
    ∃ l' : List Tst, l.map (·.1) = l'.map Tst.cells ∧ (∀ a ∈ l', good a) ∧ (l'.map cnt).sum ≤ Rows.uptoBulkAll (l.map (·.2))
  | [], _ => ⟨[], rfl, fun a h => by simp at h, by simp⟩
  | x :: l, hd => by
    obtain ⟨a, ha, hg, hc⟩ := hd x (List.mem_cons_self)
    obtain ⟨l', hl', hg', hc'⟩ := tst_list good cnt l (fun x' h' => hd x' (List.mem_cons_of_mem _ h'))
    refine ⟨a :: l', by rw [List.map_cons, List.map_cons, ← ha, ← hl'], fun b hb => ?_, ?_⟩
    · rcases List.mem_cons.1 hb with rfl | hb
      · exact hg
      · exact hg' b hb
    · simp only [List.map_cons, List.sum_cons, Rows.uptoBulkAll]
      omega

set_option maxRecDepth 100000 in
/-- An argument opens into a test. -/
theorem tst_open {H : Type} {enc : TypeId × Value → H} {W : World} : ∀ (fuel : Nat) (cs : List Value) (y : DataW H) (z : List MemPlace), DataW.trod enc Try.prog W 0 (fun _ => true) true fuel 142 cs = some (y, z) → Sz Try.prog 142 y →
    ∃ v : Tst, cs = v.cells ∧ TR W fuel v ∧ cntN fuel v ≤ Rows.uptoBulk y
  | 0, _, _, _, h, _ => by simp [DataW.trod] at h
  | fuel + 1, cs, y, z, h, hsz => by
    have hF : RdgF enc Try.prog W (fuel + 1) 142 cs := ⟨_, h, hsz⟩
    obtain ⟨hl, hf⟩ := rdgF_struct Try.underlying142 hF
    obtain ⟨xs, n0, hfu, hx, hl', hxl, hfs⟩ := DataW.trod_struct Try.underlying142 h
    obtain ⟨c0, c1, c2, c3, c4, rfl⟩ := len5 (show cs.length = 5 from hl)
    obtain ⟨m0, _, g0⟩ := hf 0 _ rfl
    obtain ⟨m1, _, g1⟩ := hf 1 _ rfl
    obtain ⟨m2, _, g2⟩ := hf 2 _ rfl
    obtain ⟨m3, _, g3⟩ := hf 3 _ rfl
    obtain ⟨o, e0, ho⟩ := rdg_i64 Try.underlying3 g0.rdg
    obtain ⟨m, e1, hm⟩ := rdg_i64 Try.underlying3 g1.rdg
    obtain ⟨l, e2, hlo⟩ := rdg_i64 Try.underlying3 g2.rdg
    obtain ⟨hh, e3, hhi⟩ := rdg_i64 Try.underlying3 g3.rdg
    have h4 := hfs 4 _ rfl
    have hx4 : xs[4]? = some (xs[4]'(by rw [hxl]; decide)) := List.getElem?_eq_getElem (by rw [hxl]; decide)
    rw [hx4] at h4
    have hmem : (xs[4]'(by rw [hxl]; decide)).1 ∈ xs.map (·.1) := List.mem_map.2 ⟨_, List.getElem_mem _, rfl⟩
    have hsz4 : Sz Try.prog 46 (xs[4]'(by rw [hxl]; decide)).1 := fun k hk => hsz k (by
      injection hx with hx1 hx2
      rw [hx1]
      simp only [DataW.weights, Try.underlying142]
      refine sz_each (j := 4) (t := 46) (d := (xs[4]'(by rw [hxl]; decide)).1) rfl ?_ hk
      rw [List.getElem?_map, hx4]; rfl)
    obtain ⟨A, n, c, l5, e4, hn, hsl, hr, hel, hbulk⟩ := trod_elems Try.underlying46 (by decide) h4 hsz4
    obtain ⟨kids, hk1, hk2, hk3⟩ := tst_list (TR W fuel) (cntN fuel) l5 (fun x hx' => by
      obtain ⟨_, m', z', hm', ht', hs'⟩ := hel x hx'
      obtain ⟨v, hv, hvr, hvc⟩ := tst_open m' x.1 x.2 z' ht' hs'
      exact ⟨v, hv, hvr.mono (by omega), by rw [cnt_mono (by omega : m' ≤ fuel) hvr]; exact hvc⟩)
    rw [hk1] at hr
    have hlen : kids.length = n := by
      have := congrArg List.length hk1
      simpa [hn] using this.symm
    refine ⟨.mk o m l hh A n c kids, ?_, ⟨ho, hm, hlo, hhi, hlen, hsl, hr.of_map, hk2⟩, ?_⟩
    · simp only [List.cons.injEq, Tst.cells, and_true]
      exact ⟨List.singleton_inj.1 e0, List.singleton_inj.1 e1, List.singleton_inj.1 e2, List.singleton_inj.1 e3, List.singleton_inj.1 e4⟩
    · injection hx with hx1 hx2
      rw [hx1]
      simp only [cntN, Rows.uptoBulk]
      have := bulk_mem hmem
      omega
end Go.Proofs.Ytkldjnopapipfaa
