/-
  The reference's testForm: its map literal, and the kids.
-/
import Derived.Test.YtkldjnopapipfaaRule9
import Derived.Maps.Own
import Derived.Maps.OwnSet
import Derived.Carry
namespace Go.Proofs.Ytkldjnopapipfaa
open Go.RowKit Go.Maps
set_option linter.unusedVariables false

theorem keyI : Keyed Try.prog 3 := int_keyed Try.underlying3
theorem zeroI (w : World) : (zeroValue 3).run Try.prog w = .ok (.int .i64 0) w := by kernel_rfl
def leastR (o : Int) : Int := if o = 4 then 1 else if o = 3 then 2 else if o = 2 then 2 else 0
def isOp (o : Int) : Bool := decide (o = 2 ∨ o = 3 ∨ o = 4)

theorem wf64 {n : Int} (h : In64 n) : (Lit.int .i64 n).wf = true := by
  simpa [Lit.wf, IntKind.min, IntKind.max, IntKind.signed, IntKind.bits, In64] using h

set_option maxRecDepth 100000 in
/-- The map literal's three stores, and the look-up in it. -/
theorem least_run (W : World) (b : Nat) (hb : W.heap.size = b) (o : Int) (ho : In64 o) : ∃ w1 w2 w3 : World,
    (Instr.mapUpdate 212 (.map (some b)) (.int .i64 2) (.int .i64 2)).run Try.prog (W.alloc (.map #[] 0)) = .ok () w1 ∧
    (Instr.mapUpdate 212 (.map (some b)) (.int .i64 3) (.int .i64 2)).run Try.prog w1 = .ok () w2 ∧
    (Instr.mapUpdate 212 (.map (some b)) (.int .i64 4) (.int .i64 1)).run Try.prog w2 = .ok () w3 ∧
    (Instr.lookup 212 (.map (some b)) (.int .i64 o) true).run Try.prog w3 = .ok (.tuple #[.int .i64 (leastR o), .bool (isOp o)]) w3 ∧
    Below W.heap.size W w3 := by
  subst hb
  have h0 := World.ownsMap_made (H := Unit) W Try.prog 3 (plainElem Try.prog 3)
  obtain ⟨w1, r1, h1, g1⟩ := h0.update keyI Try.underlying212 (by decide) (key := .int .i64 2) (val := .int .i64 2) (keyOf_int_mk Try.underlying3 (by decide)) (plainElem_int Try.underlying3 (by decide))
  obtain ⟨w2, r2, h2, g2⟩ := h1.update keyI Try.underlying212 (by decide) (key := .int .i64 3) (val := .int .i64 2) (keyOf_int_mk Try.underlying3 (by decide)) (plainElem_int Try.underlying3 (by decide))
  obtain ⟨w3, r3, h3, g3⟩ := h2.update keyI Try.underlying212 (by decide) (key := .int .i64 4) (val := .int .i64 1) (keyOf_int_mk Try.underlying3 (by decide)) (plainElem_int Try.underlying3 (by decide))
  obtain ⟨v, ps, r4, hv⟩ := h3.look_ok keyI Try.underlying212 (zeroI w3) (plainElem_int Try.underlying3 (by decide)) (key := .int .i64 o) (keyOf_int_mk Try.underlying3 (wf64 ho))
  obtain ⟨c, rfl, hc, _⟩ := plainElem_int_inv Try.underlying3 hv
  have m0 := h0.isMap
  have m1 := h1.isMap
  have m2 := h2.isMap
  have kk : ∀ a : Int, WideAt.IsKeyLit (.int .i64 a) := fun a => trivial
  have e : c = leastR o ∧ Maps.has ((((DataW.map (H := Unit) []).put (.int .i64 2) (.lit (.int .i64 2))).put (.int .i64 3) (.lit (.int .i64 2))).put (.int .i64 4) (.lit (.int .i64 1))) (.int .i64 o) = isOp o := ⟨by
      have hc' := congrArg Prod.fst hc
      simp only at hc'
      unfold leastR
      by_cases e4 : o = 4
      · subst e4
        rw [atKey_put_same m2 (kk _)] at hc'
        injection hc' with hc'
        injection hc' with _ hc'
        rw [if_pos rfl]; exact hc'.symm
      · rw [atKey_put_other (by simpa using e4)] at hc'
        by_cases e3 : o = 3
        · subst e3
          rw [atKey_put_same m1 (kk _)] at hc'
          injection hc' with hc'
          injection hc' with _ hc'
          rw [if_neg (by decide), if_pos rfl]; exact hc'.symm
        · rw [atKey_put_other (by simpa using e3)] at hc'
          by_cases e2 : o = 2
          · subst e2
            rw [atKey_put_same m0 (kk _)] at hc'
            injection hc' with hc'
            injection hc' with _ hc'
            rw [if_neg (by decide), if_neg (by decide), if_pos rfl]; exact hc'.symm
          · rw [atKey_put_other (by simpa using e2), WideAt.atKey_none _ (fun p hp => by cases hp)] at hc'
            injection hc' with hc'
            injection hc' with _ hc'
            rw [if_neg e4, if_neg e3, if_neg e2]; exact hc'.symm, by
      unfold isOp
      by_cases e4 : o = 4
      · subst e4
        rw [has_put_same m2 (kk _)]; rfl
      · rw [has_put_other (by simpa using e4)]
        by_cases e3 : o = 3
        · subst e3
          rw [has_put_same m1 (kk _)]; rfl
        · rw [has_put_other (by simpa using e3)]
          by_cases e2 : o = 2
          · subst e2
            rw [has_put_same m0 (kk _)]; rfl
          · rw [has_put_other (by simpa using e2)]
            simp [e2, e3, e4, Maps.has]⟩
  rw [e.1, e.2] at r4
  have b0 : Below W.heap.size W (W.alloc (.map #[] 0)) := Below.alloc (Below.refl _ _) (Nat.le_refl _) _
  have s0 : W.heap.size ≤ (W.alloc (.map #[] 0)).heap.size := by simp
  have b1 := b0.grown g1 s0 (fun k hk => by injection hk with hk; omega)
  have b2 := b1.grown g2 b1.size (fun k hk => by injection hk with hk; omega)
  have b3 := b2.grown g3 b2.size (fun k hk => by injection hk with hk; omega)
  exact ⟨w1, w2, w3, r1, r2, r3, r4, b3⟩
end Go.Proofs.Ytkldjnopapipfaa
