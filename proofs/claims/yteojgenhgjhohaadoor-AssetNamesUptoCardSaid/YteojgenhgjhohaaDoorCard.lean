/-
  The frame of a law's row, over any program: a law whose call returns true and leaves what was there as it was meets its row's post-condition, whatever its parameters are. For a law whose row lists package-level variables: what the list gives; the witness world that holds them; parameters of reach.
-/
import Derived.WalkKit
import Derived.ProofKit
import Derived.OpenShut
import Derived.Carry
import Derived.Test.YteojgenhgjhohaaDoorL3
import Derived.Deep.DeepHandedRow
import Derived.Lib.LaidTab
namespace Go.Proofs.YteojgenhgjhohaaDoor
open Go.RowKit Go.WideShapes Go.ChangeShapes Go.ChangeAt

section
variable {H : Type} {enc : TypeId × Value → H} {P : Program}

theorem trodAll_below (hl : laidOutB P = true) {W W' : World} (hb : Below W.heap.size W W') {sp : Nat → Bool} :
    ∀ (ts : List TypeId) (vs : List Value) (ds : List (DataW H)) (p : List MemPlace), ts.all (fun t => P.readableRec t && decide (t < P.types.size)) = true →
      DataW.TrodAll enc P W 0 (fun _ => true) true ts vs ds p → (∀ x ∈ p, x.block < W.heap.size) → (∀ x ∈ p, sp x.block = true) → DataW.TrodAll enc P W' 0 sp true ts vs ds p
  | [], vs, ds, p, _, h, _, _ => by
    obtain ⟨rfl, rfl, rfl⟩ := trodAll_nil h
    exact trodAll_mk0
  | t :: ts, vs, ds, p, hr, h, hlt, hsp => by
    obtain ⟨v, vs', d, ds', p1, q1, rfl, rfl, rfl, h1, h2⟩ := trodAll_cons h
    simp only [List.all_cons, Bool.and_eq_true, decide_eq_true_eq] at hr
    refine trodAll_cons_mk (WideElems.Trod_stays hl hr.1.1 hr.1.2 h1 (fun x hx => hb.same (hlt x (List.mem_append.2 (.inl hx)))) (fun x hx => hsp x (List.mem_append.2 (.inl hx)))) ?_
    exact trodAll_below hl hb ts vs' ds' q1 hr.2 h2 (fun x hx => hlt x (List.mem_append.2 (.inr hx))) (fun x hx => hsp x (List.mem_append.2 (.inr hx)))

theorem law_post {f : Func} {s : ChangeSpec} {tb : TypeId} {W W' : World} {args : Array Value} {ds gs : List (DataW H)} {before : List MemPlace} (hl : laidOutB P = true)
    (hpar : f.params.toList.all (fun t => P.readableRec t && decide (t < P.types.size)) = true) (hres : f.resultTypes = #[tb]) (htb : P.underlying tb = some .bool) (hsv : s.vars = [])
    (hfn : ∀ ds, DataW.TrodAll enc P W 0 (fun _ => true) true f.params.toList args.toList ds before → s.fn H (ds ++ []) = { results := [.lit (.bool true)], args := ds })
    (hW : DataW.Whole enc P f.params.toList s.vars false W args.toList ds gs before) (hb : Below W.heap.size W W') :
    s.post enc P f false true false false W args (.bool true) W' := by
  have hlt : ∀ p ∈ before, p.block < W.heap.size := fun p hp => hW.lt p hp
  have hW' := hW
  obtain ⟨p, q, hA, hV, hpq, hfz, hnd⟩ := hW
  rw [hsv] at hV
  obtain ⟨rfl, rfl⟩ := trodVars_none hV
  have e : before = p := by rw [hpq, List.append_nil]
  subst e
  have e := hfn ds hA
  refine ⟨ds, [], before, [], before, [], hW', ?_, ?_, ?_, ?_, fun h => by cases h⟩
  · rw [e, hres]
    exact trodAll_cons_mk (shut_bool htb _) trodAll_mk0
  · rw [e]
    exact trodAll_below hl hb _ _ _ _ hpar hA hlt (fun x hx => by simpa using hlt x hx)
  · rw [e, hsv]
    rfl
  · exact hb.frame _

theorem ds_one {W : World} {b : Nat} {sp : Nat → Bool} {hd : Bool} {t0 : TypeId} {vs : List Value} {ds : List (DataW H)} {p : List MemPlace} (h : DataW.TrodAll enc P W b sp hd [t0] vs ds p) : ∃ d0, ds = [d0] := by
  obtain ⟨_, _, d0, _, _, _, _, rfl, _, _, h⟩ := trodAll_cons h
  obtain ⟨_, rfl, _⟩ := trodAll_nil h
  exact ⟨d0, rfl⟩
theorem ds_two {W : World} {b : Nat} {sp : Nat → Bool} {hd : Bool} {t0 t1 : TypeId} {vs : List Value} {ds : List (DataW H)} {p : List MemPlace} (h : DataW.TrodAll enc P W b sp hd [t0, t1] vs ds p) : ∃ d0 d1, ds = [d0, d1] := by
  obtain ⟨_, _, d0, _, _, _, _, rfl, _, _, h⟩ := trodAll_cons h
  obtain ⟨d1, rfl⟩ := ds_one h
  exact ⟨d0, d1, rfl⟩
end
end Go.Proofs.YteojgenhgjhohaaDoor
namespace Go.Proofs.YteojgenhgjhohaaDoor
open Go.RowKit Go.WideShapes Go.ChangeShapes Go.ChangeAt

theorem tab_at {P : Program} {W : World} {name : String} {k : IntKind} {zs : List Int} {g : Nat} {t e : TypeId} {n : Nat}
    (hg : P.globalNamed name = some g) (hty : (P.globals[g]?).map (·.type) = some t) (ht : P.underlying t = some (.array n e)) (he : P.underlying e = some (.int k)) (hce : P.cellsOf e = 1) (hct : P.cellsOf t = n) :
    ∀ (laid : List (String × DataW Unit)) (i : Nat) (ps : List MemPlace), laid[i]? = some (name, Lib.tabData k zs) → DataW.LaidVars P W laid ps → Lib.TabIs P W name k zs
  | [], i, _, h, _ => by simp at h
  | (n', d) :: r, 0, ps, h, hl => by
    simp at h
    obtain ⟨rfl, rfl⟩ := h
    obtain ⟨g', t', cs, fuel, p, q, hg', ht', hvar, hd, _, _⟩ := hl
    obtain rfl := Option.some.inj (hg.symm.trans hg')
    obtain rfl := Option.some.inj (hty.symm.trans ht')
    unfold Lib.TabIs
    rw [hvar, ← Lib.cells_of_tab ht he hce hct hd]
  | (n', d) :: r, i + 1, ps, h, hl => by
    obtain ⟨g', t', cs, fuel, p, q, _, _, _, _, hr, _⟩ := hl
    exact tab_at hg hty ht he hce hct r i q (by simpa using h) hr

theorem laidMet_of_H {P : Program} {laid : List (String × DataW Unit)} {W : World} (hf : laid.filter (fun x => x.2.handleName?.isSome) = []) (h : laidMetH P laid W) : ∃ ps, DataW.LaidVars P W laid ps := by
  unfold laidMetH at h
  rw [hf] at h
  obtain ⟨ps, h, _⟩ := h
  exact ⟨ps, h⟩

mutual
def flatD : DataW Unit → List Value
  | .lit (.int k z) => [.int k z]
  | .lit (.bool b) => [.bool b]
  | .lit (.string l) => [.string ⟨l.toArray⟩]
  | .agg l => flatL l
  | _ => []
def flatL : List (DataW Unit) → List Value
  | [] => []
  | d :: r => flatD d ++ flatL r
end

def putVar (w : World) (g : Nat) (d : DataW Unit) : World :=
  { w with heap := w.heap.modify g fun
      | .cells _ t fr => .cells (flatD d).toArray t fr
      | o => o }
def putVars (w : World) : List (Nat × DataW Unit) → World
  | [] => w
  | (g, d) :: r => putVars (putVar w g d) r
theorem putVars_os : ∀ (l : List (Nat × DataW Unit)) (w : World), (putVars w l).os = w.os
  | [], _ => rfl
  | (g, d) :: r, w => putVars_os r (putVar w g d)

theorem sz_param {H : Type} {P : Program} {ts : List TypeId} {ds : List (DataW H)} (hsz : (DataW.weightsEach P ts ds).all (· ≤ reachBytes) = true) (j : Nat) {t : TypeId} {d : DataW H} (ht : ts[j]? = some t) (hd : ds[j]? = some d) : Sz P t d :=
  fun n hn => of_decide_eq_true (List.all_eq_true.1 hsz _ (DataW.weights_mem_each ht hd n hn))
theorem str_sz {H : Type} {enc : TypeId × Value → H} {P : Program} {W : World} {t : TypeId} {s : ByteArray} (ht : P.underlying t = some .string) (h : Rdg enc P W t (Value.string s).cells.toList) : s.size ≤ 140737488351232 := by
  obtain ⟨s', e, hs⟩ := rdg_str ht h
  have e : [Value.string s] = [Value.string s'] := e
  injection e with e _
  injection e with e
  rw [e]; exact hs
end Go.Proofs.YteojgenhgjhohaaDoor
