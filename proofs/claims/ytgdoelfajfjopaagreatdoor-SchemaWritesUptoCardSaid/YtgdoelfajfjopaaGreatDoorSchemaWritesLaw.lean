/-
  SchemaWrites: for all schemas of bulk at most 1048576, conf.SchemaValue answers as the reference's SchemaValueOf.
-/
import Derived.Test.YtgdoelfajfjopaaGreatDoorSw5
import Derived.Test.YtgdoelfajfjopaaGreatDoorPV
import Derived.Test.YtgdoelfajfjopaaGreatDoorCard
import Derived.Test.YtgdoelfajfjopaaGreatDoorCards
import Derived.Test.YtgdoelfajfjopaaGreatDoorTie
import Derived.Lay
import Derived.Deep.DeepWitnessRowRef
namespace Go.Proofs.YtgdoelfajfjopaaGreatDoor.schemaWrites
open Go.RowKit Go.WideShapes Go.ChangeShapes Go.ChangeAt
set_option linter.unusedVariables false
set_option linter.unusedSimpArgs false

set_option maxRecDepth 100000 in
theorem law_sp (p : rs.Pl) (l : List Fd) (b : Bool) (hw : (l.map Fd.wt).sum ≤ 2000000) : Sp (cx Tryz.prog mixed tyT_ok (rs.nEnv (rs.env0 p) (rs.names_gv p))) 4 [.agg [encFs l, dB b]] (dB true) :=
  sw.schemaWrites_sp (rs.nEnv (rs.env0 p) (rs.names_gv p)) (fun w (h : rs.NG p w) => h.1) (rs.env0 p) (rs.names_gv p) rfl l b hw

/-- What the call may count on. -/
noncomputable def env (p : rs.Pl) : Env := rs.nEnv (rs.env0 p) (rs.names_gv p)
noncomputable abbrev X0 (p : rs.Pl) : Cx RC := cx Tryz.prog mixed tyT_ok (env p)
theorem own : ownKnob Tryz.prog.godebug = none := by kernel_rfl
theorem laidOut : laidOutB Tryz.prog = true := by kernel_rfl
/-- A world that holds the listed variables. -/
noncomputable def laidWorld (os : Os) : World := World.laidAll Tryz.prog os Rows.schemaWritesUptoRow.laid
theorem laid_met (os : Os) : laidMet Tryz.prog Rows.schemaWritesUptoRow.laid ((laidWorld os).forCall (fun _ _ => 0) ⟨#[], #[.agg #[.slice none 0 0, .bool false]], []⟩).memory :=
  laidMet_laidAll _ (by kernel_rfl) (by kernel_rfl)
theorem reads (os : Os) {H : Type} (enc : TypeId × Value → H) : ∃ places, DataW.whole enc Tryz.prog ((laidWorld os).forCall (fun _ _ => 0) ⟨#[], #[.agg #[.slice none 0 0, .bool false]], []⟩).memory Tryz.f4.params.toList Rows.schemaWritesSpec.vars false (#[.agg #[.slice none 0 0, .bool false]] : Array Value).toList 8 = some ([.agg [.nil, .lit (.bool false)]], [], places) :=
  ⟨[], by kernel_rfl⟩

set_option maxRecDepth 100000 in
theorem lifted (os : Os) (started : os.Started) (H : Type) (enc : TypeId × Value → H) (F : Stop.Interp) :
    ReturnsInHanded {} Tryz.checked os 4 .any ((Rows.OpenSpec.upto Rows.schemaWritesSpec).preRow enc Tryz.prog Tryz.f4 Rows.schemaWritesUptoRow.domain false Rows.schemaWritesUptoRow.laid) (((Rows.OpenSpec.upto Rows.schemaWritesSpec).at F).post enc Tryz.prog Tryz.f4 false true false false) := by
  obtain ⟨places, hx⟩ := reads os enc
  refine returnsInHanded_of_row (C := Tryz.checked) (s := (Rows.OpenSpec.upto Rows.schemaWritesSpec)) own started (by kernel_rfl) Tryz.func4
    (witness_row_atRef (enc := enc) (C := Tryz.checked) false (laidWorld os) #[.agg #[.slice none 0 0, .bool false]] (World.laidAll_os _ _ _) (by kernel_rfl) (by kernel_rfl) (by kernel_rfl)
      (OpenSpec.preRow_of_cond 8 hx (by kernel_rfl) (fun k hk => by cases hk; kernel_rfl) (by kernel_rfl) (laid_met os))) ?_
  intro W base args ds gs before hval0 hW _ hcond hsz0 hL hsh _
  have hk := hcond _ rfl
  have hval : ∀ (j : Nat) t v, Tryz.f4.params[j]? = some t → args[j]? = some v → Value.okWide Tryz.prog W .any base t v := hval0
  have hW' := hW
  obtain ⟨p, q, hA0, hV, rfl, hfz, hnd⟩ := hW
  have hA : DataW.TrodAll enc Tryz.prog W 0 (fun _ => true) true Tryz.f4.params.toList args.toList ds p := hA0
  rw [Tryz.params4] at hA hval
  obtain ⟨v0, vs0, d0, ds0, p0, q0, hargs, rfl, rfl, h0, r0⟩ := trodAll_cons hA
  obtain ⟨rfl, rfl, rfl⟩ := trodAll_nil r0
  obtain rfl : args = #[v0] := by cases args; simp_all
  obtain ⟨rfl, rfl⟩ := trodVars_none (show DataW.TrodVars enc Tryz.prog W (fun _ => true) [] gs q from hV)
  simp only [List.append_nil] at hsz0
  simp only [List.append_nil] at hk
  have hbulk : Rows.uptoBulkAll ([d0] : List (DataW H)) ≤ 1048576 := of_decide_eq_true hk
  simp only [Rows.uptoBulkAll] at hbulk
  obtain ⟨ps, hps⟩ := laidMet_of_H (by kernel_rfl) hL
  obtain ⟨b, o, c, hw1⟩ := words_at (P := Tryz.prog) (name := "masthead/conf.kindNames") (ws := rs.namesL) (g := 1) (t := 23) (by decide) (by kernel_rfl) (by kernel_rfl) Tryz.underlying23 Tryz.underlying9 (by kernel_rfl) _ 6 ps (by kernel_rfl) hps
  obtain ⟨b2, o2, c2, hw2⟩ := words_at (P := Tryz.prog) (name := "masthead/mastref2.kindNames") (ws := rs.namesL) (g := 0) (t := 23) (by decide) (by kernel_rfl) (by kernel_rfl) Tryz.underlying23 Tryz.underlying9 (by kernel_rfl) _ 7 ps (by kernel_rfl) hps
  obtain ⟨p, hp1, hp2, hp3, hp4, hp5, hp6⟩ : ∃ p : rs.Pl, p.b = b ∧ p.o = o ∧ p.c = c ∧ p.b2 = b2 ∧ p.o2 = o2 ∧ p.c2 = c2 := ⟨⟨b, o, c, b2, o2, c2⟩, rfl, rfl, rfl, rfl, rfl, rfl⟩
  subst hp1; subst hp2; subst hp3; subst hp4; subst hp5; subst hp6
  obtain ⟨_, n0, ⟨x0, z0, rfl, m0⟩, bb0, e0⟩ := arg_struct (X := X0 p) Tryz.underlying34 (opn_schema (env p)) (hval 0 34 v0 rfl rfl) h0 (sz_param hsz0 0 (t := 34) (by rw [Tryz.params4]; rfl) rfl)
  have hE : (env p).G W := ⟨Tryz.laysM146.s1_3 W hsh, hw1, hw2⟩
  refine ((law_sp p x0 z0 (by omega)).law (X := X0 p) (W := W) (vs := #[_]) hE rfl (rep_args1 e0) ⟨_, _, Tryz.func4, by kernel_rfl, rfl⟩).mono fun e W' ⟨he, hg⟩ => ?_
  subst he
  exact ⟨_, rfl, law_post (s := Rows.schemaWritesSpec) laidOut (by kernel_rfl) (by kernel_rfl) Tryz.underlying4 rfl (fun ds h => by rw [Tryz.params4] at h; obtain ⟨_, rfl⟩ := ds_one h; rfl) hW' hg⟩

theorem over : Rows.schemaWritesUptoRow.holds Tryz.pinned (Rows.OpenSpec.upto Rows.schemaWritesSpec) :=
  OpenClaim.holds_of_cond 4 Tryz.f4 rfl rfl rfl rfl rfl rfl rfl ⟨rfl, rfl, rfl, rfl, rfl⟩ rfl rfl rfl rfl rfl (by kernel_rfl) Tryz.func4 (by kernel_rfl)
    (of_decide_eq_true (by kernel_rfl)) (by unfold Func.isWrapper; first | (rw [if_pos (by decide +kernel)]; kernel_rfl) | (rw [if_neg (by decide +kernel)]; exact ⟨rfl, rfl⟩))
    (fun os started H enc _ F => by rw [OpenClaim.pre_eq_preRow]; exact lifted os started H enc F)

/-- No parameter wants a stand-in. -/
theorem plain (f : FuncId) (fn : Func) (hf : Tryz.pinned.checked.prog.funcNamed Rows.schemaWritesUptoRow.func = some f) (hfn : Tryz.pinned.checked.prog.funcs[f]? = some fn) :
    Rows.schemaWritesUptoCard.stood.looks = Tryz.pinned.checked.prog.looks [] ∧ ∀ (j : Nat) t, fn.params[j]? = some t → Tryz.pinned.checked.prog.wantsStandIn t = false := by
  obtain rfl : f = 4 := Option.some.inj ((show Tryz.prog.funcNamed Rows.schemaWritesUptoRow.func = some 4 by kernel_rfl).symm.trans hf) |>.symm
  obtain rfl : fn = Tryz.f4 := (Option.some.inj (Tryz.func4.symm.trans hfn)).symm
  refine ⟨by kernel_rfl, fun j t ht => ?_⟩
  have hall : Tryz.f4.params.toList.all (fun t => !Tryz.prog.wantsStandIn t) = true := by kernel_rfl
  have := List.all_eq_true.1 hall t (by rw [← Array.getElem?_toList] at ht; exact List.mem_of_getElem? ht)
  exact (show Tryz.prog.wantsStandIn t = false by simpa using this)

/-- The statement: the tied card. -/
theorem proved : Rows.SchemaWritesUptoCardSaid :=
  Claim7.holds_tied_plain_at .later [] _ _ _ _ over (fun _ h => by cases h) (by kernel_rfl) (fun _ h => by cases h) schemaWritesUpto_row_tie rfl ⟨rfl, rfl⟩ (by kernel_rfl) rfl plain (by kernel_rfl)
#print axioms proved
end Go.Proofs.YtgdoelfajfjopaaGreatDoor.schemaWrites
