/-
  Rows of names as arguments; the wrap for a condition and a world's shape at once.
-/
import Derived.Test.YtiiohopjkepkgaaP
import Derived.Test.YtiiohopjkepkgaaRl3
import Derived.JoinedCond
import Derived.SizedLaws
namespace Go.Proofs.Ytiiohopjkepkgaa
open Go.RowKit
set_option linter.unusedVariables false
namespace rl
section
variable {H : Type} {enc : TypeId × Value → H}
/-- A call's law where the specification bears a condition, and the world's shape is wanted. -/
theorem cond_shaped {a : Assume} {C : Checked} {os : Os} {f : FuncId} {fn : Func} {s : OpenSpec} {k : (H : Type) → List (DataW H) → Bool} (hk : s.cond = some k) {F : Stop.Interp} {conds : List PathCond} {apart fresh handsOn again : Bool}
    (own : ownKnob C.prog.godebug = none) (started : os.Started) (noInit : C.prog.inits.idxOf? f = none) (hfn : C.prog.funcs[f]? = some fn)
    (witness : ∃ (w : World) (tape : Tape) (i : Input), w.os = os ∧ (w.forCall tape i).Shaped C.prog ∧ i.vars = [] ∧ Input.okWide C.prog (w.forCall tape i) .any w.heap.size f i ∧
      s.pre6 enc C.prog fn conds apart (w.forCall tape i).memory i.args ∧ a.holds C.prog (lone (Frame.enter C.prog f i.args .normal) [] (w.forCall tape i)))
    (law : ∀ (W : World) (base : Nat) (args : Array Value) (ds gs : List (DataW H)) (before : List MemPlace),
      (∀ (j : Nat) t v, fn.params[j]? = some t → args[j]? = some v → Value.okWide C.prog W .any base t v) →
      DataW.Whole enc C.prog fn.params.toList s.vars apart W args.toList ds gs before →
      conds.all (PathCond.test C.prog ⟨fn.params.toList, ds, s.bare.plain.varTypes C.prog, gs⟩) = true → k H (ds ++ gs) = true →
      (DataW.weightsEach C.prog (fn.params.toList ++ s.bare.plain.varTypes C.prog) (ds ++ gs)).all (· ≤ reachBytes) = true →
      W.ShapedOpen C.prog →
      a.holds C.prog (lone (Frame.enter C.prog f args .normal) [] W) →
      Calls C.prog f args W fun e W' => ∃ v, e = .returned v ∧ (s.at F).post enc C.prog fn apart fresh handsOn again W args v W') :
    ReturnsInHanded a C os f .any (s.pre6 enc C.prog fn conds apart) ((s.at F).post enc C.prog fn apart fresh handsOn again) :=
  returnsInHanded_of_calls own started noInit witness fun w tape i _ hsh _ hok hpre hholds => by
    obtain ⟨_, _, _, fn', hfn', _, _, _, _, hval⟩ := hok
    obtain rfl : fn' = fn := Option.some.inj (hfn'.symm.trans hfn)
    obtain ⟨ds, gs, before, hw, hc, hkk⟩ := (OpenSpec.pre_some hk conds apart _ _).1 hpre.1
    have hl := law (w.forCall tape i) w.heap.size i.args ds gs before hval (DataW.Whole.of_heap (w' := w.forCall tape i) (by rfl) hw) hc hkk (hpre.2.weights hw) hsh hholds
    refine hl.mono fun e W' h => ?_
    obtain ⟨v, rfl, hp⟩ := h
    exact ChangeSpec.post_blind hp
end
section
variable (E : Env)
theorem names_of : ∀ (l : List (List DD × Nat)), (∀ x ∈ l, (∃ t : Nm, x.1 = [dS t.1, dS t.2] ∧ t.2.size ≤ x.2) ∧ x.1.length = 2) → ∃ vs : List Nm, vs.length = l.length ∧ (∀ i, i < l.length → (l.getD i ([], 0)).1 = [dS (vs.getD i nz).1, dS (vs.getD i nz).2]) ∧ ∀ t ∈ vs, t.2.size ≤ (l.map (·.2)).sum
  | [], _ => ⟨[], rfl, fun i hi => by simp at hi, fun t ht => by cases ht⟩
  | x :: l, h => by
    obtain ⟨vs, h2, h3, h4⟩ := names_of l (fun y hy => h y (List.mem_cons_of_mem _ hy))
    obtain ⟨⟨t, h6, h7⟩, _⟩ := h x List.mem_cons_self
    refine ⟨t :: vs, by simp [h2], fun i hi => ?_, fun q hq => ?_⟩
    · match i, hi with
      | 0, _ => exact h6
      | i + 1, hi => exact h3 i (by simpa using hi)
    · simp only [List.map_cons, List.sum_cons]
      rcases List.mem_cons.1 hq with rfl | hq
      · omega
      · have := h4 q hq
        omega
theorem opn_name (N : Nat) : Opn (cx Try.prog mixed tyT_ok E) N 29 (fun ds n => ∃ t : Nm, ds = [dS t.1, dS t.2] ∧ t.2.size ≤ n) := by
  refine Opn.le (Opn.mono (opn_struct (X := (cx Try.prog mixed tyT_ok E)) (N := N) Try.underlying29 (by kernel_rfl) (by kernel_rfl) (by kernel_rfl) (Rs := [_, _])
    ⟨opn_str (X := (cx Try.prog mixed tyT_ok E)) Try.underlying9, opn_str (X := (cx Try.prog mixed tyT_ok E)) Try.underlying9, trivial⟩) ?_) (Nat.le_succ _)
  rintro ds n ⟨_, _, _, _, ⟨k, hk, rfl, rfl⟩, ⟨_, _, _, _, ⟨s, hs, rfl, rfl⟩, ⟨rfl, rfl⟩, rfl, rfl⟩, rfl, rfl⟩
  refine ⟨_, _, ⟨(k, s), rfl, ?_⟩, Nat.le_refl _, ⟨Dle.refl _ _, Dle.refl _ _, trivial⟩⟩
  show s.size ≤ _
  omega
theorem opn_names (N : Nat) : Opn (cx Try.prog mixed tyT_ok E) N 22 (fun ds n => ∃ d : DD, ds = [d] ∧ ∃ l : List Nm, d = encNs l ∧ ∀ t ∈ l, t.2.size ≤ n) := by
  refine Opn.le (Opn.mono (opn_slice (X := (cx Try.prog mixed tyT_ok E)) Try.underlying22 (by kernel_rfl) (opn_name E N)) ?_) (Nat.le_succ _)
  rintro ds n ⟨l, hl, hb, rfl, rfl⟩
  obtain ⟨vs, h2, h3, h4⟩ := names_of l hl
  refine ⟨_, _, ⟨_, rfl, vs, rfl, h4⟩, Nat.le_refl _, ⟨?_, trivial⟩⟩
  refine Dle.sl (X := (cx Try.prog mixed tyT_ok E)) (show l.length = vs.length from h2.symm) (fun i j hi hj => Dle.of_eq ?_)
  rw [h3 i hi]
  match j, hj with
  | 0, _ => rfl
  | 1, _ => rfl
end
end rl
end Go.Proofs.Ytiiohopjkepkgaa
