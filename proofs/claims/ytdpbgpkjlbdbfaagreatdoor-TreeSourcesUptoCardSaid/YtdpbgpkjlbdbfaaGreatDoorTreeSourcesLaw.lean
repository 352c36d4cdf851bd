/-
  TreeSources: for all sources and languages of bulk at most 1048576 together, tree.CheckSources answers as the reference's SourcesFault.
-/
import Derived.Test.YtdpbgpkjlbdbfaaGreatDoorTsJ
import Derived.Test.YtdpbgpkjlbdbfaaGreatDoorTsW
import Derived.Test.YtdpbgpkjlbdbfaaGreatDoorPV
import Derived.Test.YtdpbgpkjlbdbfaaGreatDoorCard
import Derived.Test.YtdpbgpkjlbdbfaaGreatDoorCards
import Derived.Test.YtdpbgpkjlbdbfaaGreatDoorTie
import Derived.LaidMore
import Derived.Deep.DeepWitnessRowRef
namespace Go.Proofs.YtdpbgpkjlbdbfaaGreatDoor.treeSources
open Go.RowKit Go.WideShapes Go.ChangeShapes Go.ChangeAt
set_option linter.unusedVariables false
set_option linter.unusedSimpArgs false

set_option maxRecDepth 100000 in
theorem law_sp (p : ts.Pl) (hp : p.Good) (l : List ts.Src) (ls : List ByteArray) (hw : (l.map ts.Src.wt).sum ≤ 100000000) : Sp (cx Tryz.prog mixed tyT_ok (ts.kEnv (ts.env0 p) p.b (ts.kinds_gv p))) 3 [ts.encSrcs l, encStrs ls] (dB true) :=
  ts.treeSources_sp (ts.kEnv (ts.env0 p) p.b (ts.kinds_gv p)) (fun w (h : ts.KG p w) => h.1) p.b (ts.env0 p) (ts.kinds_gv p) rfl (ts.kinds_gm p hp) l ls hw

/-- What the call may count on. -/
noncomputable def env (p : ts.Pl) : Env := ts.kEnv (ts.env0 p) p.b (ts.kinds_gv p)
noncomputable abbrev X0 (p : ts.Pl) : Cx RC := cx Tryz.prog mixed tyT_ok (env p)
theorem own : ownKnob Tryz.prog.godebug = none := by kernel_rfl
theorem laidOut : laidOutB Tryz.prog = true := by kernel_rfl
/-- A world that holds the listed variables. -/
noncomputable def laidWorld (os : Os) : World := putVars (World.doorLaid Tryz.prog 4000 os) [(4, Rows.laid_unicode_utf8_first)]
theorem laid_met (os : Os) : laidMet Tryz.prog Rows.treeSourcesUptoRow.laid ((laidWorld os).forCall (fun _ _ => 0) ⟨#[], #[.slice none 0 0, .slice none 0 0], []⟩).memory :=
  laidMet_of_run' 12 (by kernel_rfl) (by kernel_rfl)
theorem reads (os : Os) {H : Type} (enc : TypeId × Value → H) : ∃ places, DataW.whole enc Tryz.prog ((laidWorld os).forCall (fun _ _ => 0) ⟨#[], #[.slice none 0 0, .slice none 0 0], []⟩).memory Tryz.f3.params.toList Rows.treeSourcesSpec.vars false (#[.slice none 0 0, .slice none 0 0] : Array Value).toList 8 = some ([.nil, .nil], [], places) :=
  ⟨[], by kernel_rfl⟩

set_option maxRecDepth 100000 in
theorem lifted (os : Os) (started : os.Started) (H : Type) (enc : TypeId × Value → H) (F : Stop.Interp) :
    ReturnsInHanded {} Tryz.checked os 3 .any ((Rows.OpenSpec.upto Rows.treeSourcesSpec).preRow enc Tryz.prog Tryz.f3 Rows.treeSourcesUptoRow.domain false Rows.treeSourcesUptoRow.laid) (((Rows.OpenSpec.upto Rows.treeSourcesSpec).at F).post enc Tryz.prog Tryz.f3 false true false false) := by
  obtain ⟨places, hx⟩ := reads os enc
  refine returnsInHanded_of_row (C := Tryz.checked) (s := (Rows.OpenSpec.upto Rows.treeSourcesSpec)) own started (by kernel_rfl) Tryz.func3
    (witness_row_atRef (enc := enc) (C := Tryz.checked) false (laidWorld os) #[.slice none 0 0, .slice none 0 0] (putVars_os _ _) (by kernel_rfl) (by kernel_rfl) (by kernel_rfl)
      (OpenSpec.preRow_of_cond 8 hx (by kernel_rfl) (fun k hk => by cases hk; kernel_rfl) (by kernel_rfl) (laid_met os))) ?_
  intro W base args ds gs before hval0 hW _ hcond hsz0 hL hsh _
  have hk := hcond _ rfl
  have hval : ∀ (j : Nat) t v, Tryz.f3.params[j]? = some t → args[j]? = some v → Value.okWide Tryz.prog W .any base t v := hval0
  have hW' := hW
  obtain ⟨p, q, hA0, hV, rfl, hfz, hnd⟩ := hW
  have hA : DataW.TrodAll enc Tryz.prog W 0 (fun _ => true) true Tryz.f3.params.toList args.toList ds p := hA0
  rw [Tryz.params3] at hA hval
  obtain ⟨v0, vs0, d0, ds0, p0, q0, hargs, rfl, rfl, h0, r0⟩ := trodAll_cons hA
  obtain ⟨v1, vs1, d1, ds1, p1, q1, rfl, rfl, rfl, h1, r1⟩ := trodAll_cons r0
  obtain ⟨rfl, rfl, rfl⟩ := trodAll_nil r1
  obtain rfl : args = #[v0, v1] := by cases args; simp_all
  obtain ⟨rfl, rfl⟩ := trodVars_none (show DataW.TrodVars enc Tryz.prog W (fun _ => true) [] gs q from hV)
  simp only [List.append_nil] at hsz0
  simp only [List.append_nil] at hk
  have hbulk : Rows.uptoBulkAll ([d0, d1] : List (DataW H)) ≤ 1048576 := of_decide_eq_true hk
  simp only [Rows.uptoBulkAll] at hbulk
  obtain ⟨ps, hps⟩ := laidMet_of_H (by kernel_rfl) hL
  obtain ⟨b, arr, clk, hw1, hw2, hw3, hw4⟩ := ts.smap_at (P := Tryz.prog) (L := ts.kindsL) (name := "masthead/mastref2.kindsOf") (g := 1) (t := 328) (k := 9) (e := 3) (by kernel_rfl) (by kernel_rfl) Tryz.underlying328 Tryz.underlying9 Tryz.underlying3 _ 1 ps (by kernel_rfl) hps
  have hgood0 : ts.Pl.Good ⟨b, arr, clk⟩ := ts.good_of Tryz.underlying9 hw3 hw4
  obtain ⟨p, hp1⟩ : ∃ p : ts.Pl, p = ⟨b, arr, clk⟩ := ⟨_, rfl⟩
  have hgood : p.Good := by rw [hp1]; exact hgood0
  have hw1 : W.cell? ⟨1, 0, none⟩ = some (.map (some p.b)) := by rw [hp1]; exact hw1
  have hw2 : W.heap[p.b]? = some (.map p.arr p.clk) := by rw [hp1]; exact hw2
  clear hp1 hgood0 hw3 hw4
  obtain ⟨_, n0, ⟨x0, rfl, m0⟩, bb0, e0⟩ := arg_slice (X := X0 p) Tryz.underlying22 (ts.opn_srcs1 (env p)) (hval 0 22 v0 rfl rfl) h0 (sz_param hsz0 0 (t := 22) (by rw [Tryz.params3]; rfl) rfl)
  obtain ⟨_, n1, ⟨x1, rfl, m1⟩, bb1, e1⟩ := arg_slice (X := X0 p) Tryz.underlying23 (ts.opn_strs1 (env p)) (hval 1 23 v1 rfl rfl) h1 (sz_param hsz0 1 (t := 23) (by rw [Tryz.params3]; rfl) rfl)
  have hE : (env p).G W := ⟨Tryz.laysM146.s1_3 W hsh, hw1, hw2⟩
  refine ((law_sp p hgood x0 x1 (by omega)).law (X := X0 p) (W := W) (vs := #[_, _]) hE rfl (rep_args2 e0 e1) ⟨_, _, Tryz.func3, by kernel_rfl, rfl⟩).mono fun e W' ⟨he, hg⟩ => ?_
  subst he
  exact ⟨_, rfl, law_post (s := Rows.treeSourcesSpec) laidOut (by kernel_rfl) (by kernel_rfl) Tryz.underlying4 rfl (fun ds h => by rw [Tryz.params3] at h; obtain ⟨_, _, rfl⟩ := ds_two h; rfl) hW' hg⟩

theorem j1 : (Rows.treeSourcesUptoRow.inPlace == Program.inPlace Tryz.pinned.checked.prog 3) = true := by kernel_rfl
theorem j2 : (Rows.treeSourcesUptoRow.unfollowed == Program.unfollowed Tryz.pinned.checked.prog 3) = true := by kernel_rfl
theorem j3 : (Rows.treeSourcesUptoRow.recurses == Program.recurses Tryz.pinned.checked.prog 3) = true := by kernel_rfl
theorem j4 : (Rows.treeSourcesUptoRow.named == Program.varsNamed Tryz.pinned.checked.prog 3) = true := by kernel_rfl
theorem closed : joinedFacts Tryz.pinned.checked.prog 3 Tryz.f3 ((Rows.OpenSpec.upto Rows.treeSourcesSpec)).bare Rows.treeSourcesUptoRow = true := by
  unfold joinedFacts
  rw [j1, j2, j3, j4]
  kernel_rfl

theorem over : Rows.treeSourcesUptoRow.holds Tryz.pinned (Rows.OpenSpec.upto Rows.treeSourcesSpec) :=
  OpenClaim.holds_of_cond 3 Tryz.f3 rfl rfl rfl rfl rfl rfl rfl ⟨rfl, rfl, rfl, rfl, rfl⟩ rfl rfl rfl rfl rfl (by kernel_rfl) Tryz.func3 closed
    (of_decide_eq_true (by kernel_rfl)) (by unfold Func.isWrapper; first | (rw [if_pos (by decide +kernel)]; kernel_rfl) | (rw [if_neg (by decide +kernel)]; exact ⟨rfl, rfl⟩))
    (fun os started H enc _ F => by rw [OpenClaim.pre_eq_preRow]; exact lifted os started H enc F)

/-- No parameter wants a stand-in. -/
theorem plain (f : FuncId) (fn : Func) (hf : Tryz.pinned.checked.prog.funcNamed Rows.treeSourcesUptoRow.func = some f) (hfn : Tryz.pinned.checked.prog.funcs[f]? = some fn) :
    Rows.treeSourcesUptoCard.stood.looks = Tryz.pinned.checked.prog.looks [] ∧ ∀ (j : Nat) t, fn.params[j]? = some t → Tryz.pinned.checked.prog.wantsStandIn t = false := by
  obtain rfl : f = 3 := Option.some.inj ((show Tryz.prog.funcNamed Rows.treeSourcesUptoRow.func = some 3 by kernel_rfl).symm.trans hf) |>.symm
  obtain rfl : fn = Tryz.f3 := (Option.some.inj (Tryz.func3.symm.trans hfn)).symm
  refine ⟨by kernel_rfl, fun j t ht => ?_⟩
  have hall : Tryz.f3.params.toList.all (fun t => !Tryz.prog.wantsStandIn t) = true := by kernel_rfl
  have := List.all_eq_true.1 hall t (by rw [← Array.getElem?_toList] at ht; exact List.mem_of_getElem? ht)
  exact (show Tryz.prog.wantsStandIn t = false by simpa using this)

/-- The statement: the tied card. -/
theorem proved : Rows.TreeSourcesUptoCardSaid :=
  Claim7.holds_tied_plain_at .later [] _ _ _ _ over (fun _ h => by cases h) (by kernel_rfl) (fun _ h => by cases h) treeSourcesUpto_row_tie rfl ⟨rfl, rfl⟩ (by kernel_rfl) rfl plain (by kernel_rfl)
#print axioms proved
end Go.Proofs.YtdpbgpkjlbdbfaaGreatDoor.treeSources
