/-
  For a law whose row lists package-level variables: what the list gives; the witness world that holds them; parameters of reach.
-/
import Derived.Test.YtiiohopjkepkgaaL1
import Derived.Test.YtiiohopjkepkgaaL3
import Derived.Deep.DeepHandedRow
import Derived.Lib.LaidTab
namespace Go.Proofs.Ytiiohopjkepkgaa
open Go.RowKit Go.WideShapes Go.ChangeShapes Go.ChangeAt

/-- A listed table of integers, wherever it stands on the list. -/
theorem tab_at {P : Program} {W : World} {name : String} {k : IntKind} {zs : List Int} {g : Nat} {t e : TypeId} {n : Nat}
    (hg : P.globalNamed name = some g) (hty : (P.globals[g]?).map (·.type) = some t) (ht : P.underlying t = some (.array n e)) (he : P.underlying e = some (.int k)) (hce : P.cellsOf e = 1) (hct : P.cellsOf t = n) :
    ∀ (laid : List (String × DataW Unit)) (i : Nat) (ps : List MemPlace), laid[i]? = some (name, Lib.tabData k zs) → DataW.LaidVars P W laid ps → Lib.TabIs P W name k zs
  | [], i, _, h, _ => by simp at h
  | (n', d) :: r, 0, ps, h, hl => by
    simp at h
    obtain ⟨rfl, rfl⟩ := h
    obtain ⟨g', t', cs, fuel, p, q, hg', ht', hvar, hd, _, _⟩ := hl
    obtain rfl := Option.some.inj (hg.symm.trans hg')
    obtain rfl := Option.some.inj (hty.symm.trans ht')
    unfold Lib.TabIs
    rw [hvar, ← Lib.cells_of_tab ht he hce hct hd]
  | (n', d) :: r, i + 1, ps, h, hl => by
    obtain ⟨g', t', cs, fuel, p, q, _, _, _, _, hr, _⟩ := hl
    exact tab_at hg hty ht he hce hct r i q (by simpa using h) hr

theorem laidMet_of_H {P : Program} {laid : List (String × DataW Unit)} {W : World} (hf : laid.filter (fun x => x.2.handleName?.isSome) = []) (h : laidMetH P laid W) : ∃ ps, DataW.LaidVars P W laid ps := by
  unfold laidMetH at h
  rw [hf] at h
  obtain ⟨ps, h, _⟩ := h
  exact ⟨ps, h⟩

mutual
def flatD : DataW Unit → List Value
  | .lit (.int k z) => [.int k z]
  | .lit (.bool b) => [.bool b]
  | .lit (.string l) => [.string ⟨l.toArray⟩]
  | .agg l => flatL l
  | _ => []
def flatL : List (DataW Unit) → List Value
  | [] => []
  | d :: r => flatD d ++ flatL r
end

def putVar (w : World) (g : Nat) (d : DataW Unit) : World :=
  { w with heap := w.heap.modify g fun
      | .cells _ t fr => .cells (flatD d).toArray t fr
      | o => o }
def putVars (w : World) : List (Nat × DataW Unit) → World
  | [] => w
  | (g, d) :: r => putVars (putVar w g d) r
theorem putVars_os : ∀ (l : List (Nat × DataW Unit)) (w : World), (putVars w l).os = w.os
  | [], _ => rfl
  | (g, d) :: r, w => putVars_os r (putVar w g d)

theorem sz_param {H : Type} {P : Program} {ts : List TypeId} {ds : List (DataW H)} (hsz : (DataW.weightsEach P ts ds).all (· ≤ reachBytes) = true) (j : Nat) {t : TypeId} {d : DataW H} (ht : ts[j]? = some t) (hd : ds[j]? = some d) : Sz P t d :=
  fun n hn => of_decide_eq_true (List.all_eq_true.1 hsz _ (DataW.weights_mem_each ht hd n hn))
/-- A string argument's bound. -/
theorem str_sz {H : Type} {enc : TypeId × Value → H} {P : Program} {W : World} {t : TypeId} {s : ByteArray} (ht : P.underlying t = some .string) (h : Rdg enc P W t (Value.string s).cells.toList) : s.size ≤ 140737488351232 := by
  obtain ⟨s', e, hs⟩ := rdg_str ht h
  have e : [Value.string s] = [Value.string s'] := e
  injection e with e _
  injection e with e
  rw [e]; exact hs
end Go.Proofs.Ytiiohopjkepkgaa
