/-
  Arguments open into data, over any program (second engine): what a row's reading of a type gives as data, with a weight below the reading's bulk.
-/
import Derived.Test.YteojgenhgjhohaaDoorElems
import Derived.Test.YteojgenhgjhohaaDoorN17
namespace Go.Proofs.YteojgenhgjhohaaDoor
open Go.RowKit
set_option linter.unusedVariables false
set_option linter.unusedSimpArgs false

def MW (W : World) (b o : Nat) : Prop := b < W.heap.size

section
variable {κ : Type}
def Opn (X : Cx κ) (N : Nat) (t : TypeId) (R : List (D κ) → Nat → Prop) : Prop :=
  ∀ {H : Type} (enc : TypeId × Value → H) (W : World) (fu : Nat), fu < N → ∀ (cs : List Value) (y : DataW H) (z : List MemPlace), DataW.trod enc X.P W 0 (fun _ => true) true fu t cs = some (y, z) → Sz X.P t y →
    ∃ ds n, R ds n ∧ n ≤ Rows.uptoBulk y ∧ RepC X.V (MW W) W b0 ds cs.toArray

variable {X : Cx κ}
theorem Opn.mono {N : Nat} {t : TypeId} {R R' : List (D κ) → Nat → Prop} (h : Opn X N t R) (hc : ∀ ds n, R ds n → ∃ ds' n', R' ds' n' ∧ n' ≤ n ∧ cellsOk X ds ds') : Opn X N t R' := by
  intro H enc W fu hf cs y z hy hs
  obtain ⟨ds, n, hr, hn, hq⟩ := h enc W fu hf cs y z hy hs
  obtain ⟨ds', n', hr', hn', hc⟩ := hc ds n hr
  obtain ⟨hl, hd⟩ := cellsOk_spec hc
  refine ⟨ds', n', hr', by omega, ⟨hq.n.trans hl, fun i hi => hq.o i (by omega), fun i d hi => ?_⟩⟩
  obtain ⟨e, he, hle⟩ := hd i d hi
  exact hle.ap (hq.r i e he)
theorem Opn.le {N M : Nat} {t : TypeId} {R : List (D κ) → Nat → Prop} (h : Opn X N t R) (hm : M ≤ N) : Opn X M t R :=
  fun enc W fu hf => h enc W fu (by omega)
theorem Sp.law {f : FuncId} {ds : List (D κ)} (h : Sp X f ds (.v (.bool true))) {W : World} (hG : X.G W) {vs : Array Value} (hn : vs.size = ds.length) (hr : ∀ i d, ds[i]? = some d → Rep X.V (MW W) W b0 d (vs.getD i undef)) (he : Ent X.P f) :
    Calls X.P f vs W fun e W' => e = .returned (.bool true) ∧ Below W.heap.size W W' := by
  rcases h with h | h
  rotate_left
  · obtain ⟨x, hx, _⟩ := h (MW W) b0 W vs hn hr
    obtain ⟨fn, c, hf, hname, hb⟩ := he
    have h1 : fn.name ≠ "runtime.NumGoroutine" := by simpa using hname
    have : (callFunc f vs).run X.P W = .ok (.enter f vs) W := by simp [callFunc, hf, h1, hb]
    rw [this] at hx
    cases hx
  refine (h.2 (MW W) b0 W vs hG (fun b o hm => Nat.lt_of_lt_of_le (X.mg b o hm) (X.gsz W hG)) (fun b o hb => hb) hn hr ⟨fun l o hm => (by cases hm), fun l o l' o' b c c' hm => (by cases hm)⟩ (fun b ⟨l, o, c, hm, _⟩ => by cases hm)).mono fun e W' ⟨x, M', β', h1, h2, _, _, _, h3, _⟩ => ?_
  obtain ⟨rfl, _⟩ := h3.val
  exact ⟨h1, (h2.mono (S' := noS) (Nat.le_refl _) (fun b _ ⟨l, o, c, hm, _⟩ => by cases hm)).below⟩
theorem rep_args2 {V : VW κ} {M : Nat → Nat → Prop} {w : World} {d0 d1 : D κ} {v0 v1 : Value} (h0 : Rep V M w b0 d0 v0) (h1 : Rep V M w b0 d1 v1) : ∀ i d, [d0, d1][i]? = some d → Rep V M w b0 d (#[v0, v1].getD i undef)
  | 0, d, h => by simp only [List.getElem?_cons_zero, Option.some.injEq] at h; subst h; exact h0
  | 1, d, h => by simp only [List.getElem?_cons_succ, List.getElem?_cons_zero, Option.some.injEq] at h; subst h; exact h1
  | i + 2, d, h => by simp at h
end
end Go.Proofs.YteojgenhgjhohaaDoor
