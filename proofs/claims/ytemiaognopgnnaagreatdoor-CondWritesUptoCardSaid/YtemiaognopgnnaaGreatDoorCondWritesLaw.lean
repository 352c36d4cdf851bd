/-
  CondWrites: for all conditions of bulk at most 1048576, list.CondString answers as the reference's CondStringOf.
-/
import Derived.Test.YtemiaognopgnnaaGreatDoorCw7
import Derived.Test.YtemiaognopgnnaaGreatDoorCard
import Derived.Test.YtemiaognopgnnaaGreatDoorCards
import Derived.Test.YtemiaognopgnnaaGreatDoorTie
import Derived.Lay
import Derived.Deep.DeepWitnessRowRef
namespace Go.Proofs.YtemiaognopgnnaaGreatDoor.condWrites
open Go.RowKit Go.WideShapes Go.ChangeShapes Go.ChangeAt
set_option linter.unusedVariables false
set_option linter.unusedSimpArgs false

set_option maxRecDepth 100000 in
theorem law_sp (p : cw.Pl) (x : Cd) (z : cw.i64C x) (hw : x.wt ≤ 100000000) : Sp (cx Tryz.prog mixed tyT_ok (wEnv (cw.env0 p) (cw.words_gv p))) 6 [encC x] (dB true) :=
  cw.condWrites_sp (wEnv (cw.env0 p) (cw.words_gv p)) (cw.env0 p) (cw.words_gv p) rfl (fun w (h : cw.CG p w) => h.1) (fun w (h : cw.CG p w) => h.2.1) x z hw

/-- What the call may count on. -/
noncomputable def env (p : cw.Pl) : Env := wEnv (cw.env0 p) (cw.words_gv p)
noncomputable abbrev X0 (p : cw.Pl) : Cx RC := cx Tryz.prog mixed tyT_ok (env p)
theorem own : ownKnob Tryz.prog.godebug = none := by kernel_rfl
theorem laidOut : laidOutB Tryz.prog = true := by kernel_rfl
/-- A world that holds the listed variables. -/
noncomputable def laidWorld (os : Os) : World := World.laidAll Tryz.prog os Rows.condWritesUptoRow.laid
theorem laid_met (os : Os) : laidMet Tryz.prog Rows.condWritesUptoRow.laid ((laidWorld os).forCall (fun _ _ => 0) ⟨#[], #[.agg #[.int .i64 0, .string ⟨#[]⟩, .int .i64 0, .bool false, .int .i64 0, .string ⟨#[]⟩, .slice none 0 0, .slice none 0 0, .slice none 0 0]], []⟩).memory :=
  laidMet_laidAll _ (by kernel_rfl) (by kernel_rfl)
theorem reads (os : Os) {H : Type} (enc : TypeId × Value → H) : ∃ places, DataW.whole enc Tryz.prog ((laidWorld os).forCall (fun _ _ => 0) ⟨#[], #[.agg #[.int .i64 0, .string ⟨#[]⟩, .int .i64 0, .bool false, .int .i64 0, .string ⟨#[]⟩, .slice none 0 0, .slice none 0 0, .slice none 0 0]], []⟩).memory Tryz.f6.params.toList Rows.condWritesSpec.vars false (#[.agg #[.int .i64 0, .string ⟨#[]⟩, .int .i64 0, .bool false, .int .i64 0, .string ⟨#[]⟩, .slice none 0 0, .slice none 0 0, .slice none 0 0]] : Array Value).toList 8 = some ([.agg [.lit (.int .i64 0), .lit (.string []), .agg [.lit (.int .i64 0), .lit (.bool false), .lit (.int .i64 0), .lit (.string []), .nil, .nil], .nil]], [], places) :=
  ⟨[], by kernel_rfl⟩

set_option maxRecDepth 100000 in
theorem lifted (os : Os) (started : os.Started) (H : Type) (enc : TypeId × Value → H) (F : Stop.Interp) :
    ReturnsInHanded {} Tryz.checked os 6 .any ((Rows.OpenSpec.upto Rows.condWritesSpec).preRow enc Tryz.prog Tryz.f6 Rows.condWritesUptoRow.domain false Rows.condWritesUptoRow.laid) (((Rows.OpenSpec.upto Rows.condWritesSpec).at F).post enc Tryz.prog Tryz.f6 false true false false) := by
  obtain ⟨places, hx⟩ := reads os enc
  refine returnsInHanded_of_row (C := Tryz.checked) (s := (Rows.OpenSpec.upto Rows.condWritesSpec)) own started (by kernel_rfl) Tryz.func6
    (witness_row_atRef (enc := enc) (C := Tryz.checked) false (laidWorld os) #[.agg #[.int .i64 0, .string ⟨#[]⟩, .int .i64 0, .bool false, .int .i64 0, .string ⟨#[]⟩, .slice none 0 0, .slice none 0 0, .slice none 0 0]] (World.laidAll_os _ _ _) (by kernel_rfl) (by kernel_rfl) (by kernel_rfl)
      (OpenSpec.preRow_of_cond 8 hx (by kernel_rfl) (fun k hk => by cases hk; kernel_rfl) (by kernel_rfl) (laid_met os))) ?_
  intro W base args ds gs before hval0 hW _ hcond hsz0 hL hsh _
  have hk := hcond _ rfl
  have hval : ∀ (j : Nat) t v, Tryz.f6.params[j]? = some t → args[j]? = some v → Value.okWide Tryz.prog W .any base t v := hval0
  have hW' := hW
  obtain ⟨p, q, hA0, hV, rfl, hfz, hnd⟩ := hW
  have hA : DataW.TrodAll enc Tryz.prog W 0 (fun _ => true) true Tryz.f6.params.toList args.toList ds p := hA0
  rw [Tryz.params6] at hA hval
  obtain ⟨v0, vs0, d0, ds0, p0, q0, hargs, rfl, rfl, h0, r0⟩ := trodAll_cons hA
  obtain ⟨rfl, rfl, rfl⟩ := trodAll_nil r0
  obtain rfl : args = #[v0] := by cases args; simp_all
  obtain ⟨rfl, rfl⟩ := trodVars_none (show DataW.TrodVars enc Tryz.prog W (fun _ => true) [] gs q from hV)
  simp only [List.append_nil] at hsz0
  simp only [List.append_nil] at hk
  have hbulk : Rows.uptoBulkAll ([d0] : List (DataW H)) ≤ 1048576 := of_decide_eq_true hk
  simp only [Rows.uptoBulkAll] at hbulk
  obtain ⟨ps, hps⟩ := laidMet_of_H (by kernel_rfl) hL
  obtain ⟨b, o, c, hw1⟩ := words_at (P := Tryz.prog) (name := "masthead/mastref2.condWords") (ws := cw.wordsL) (g := 1) (t := 27) (by decide) (by kernel_rfl) (by kernel_rfl) Tryz.underlying27 Tryz.underlying9 (by kernel_rfl) _ 4 ps (by kernel_rfl) hps
  obtain ⟨b2, o2, c2, hw2⟩ := words_at (P := Tryz.prog) (name := "masthead/mastref2.opWords") (ws := cw.opL) (g := 0) (t := 27) (by decide) (by kernel_rfl) (by kernel_rfl) Tryz.underlying27 Tryz.underlying9 (by kernel_rfl) _ 5 ps (by kernel_rfl) hps
  have hP : P10 W := tab_at (g := 5) (n := 20) (by kernel_rfl) (by kernel_rfl) Tryz.underlying256 Tryz.underlying170 (by kernel_rfl) (by kernel_rfl) _ 2 ps (by kernel_rfl) hps
  obtain ⟨p, hp1, hp2, hp3, hp4, hp5, hp6⟩ : ∃ p : cw.Pl, p.b = b ∧ p.o = o ∧ p.c = c ∧ p.b2 = b2 ∧ p.o2 = o2 ∧ p.c2 = c2 := ⟨⟨b, o, c, b2, o2, c2⟩, rfl, rfl, rfl, rfl, rfl, rfl⟩
  subst hp1; subst hp2; subst hp3; subst hp4; subst hp5; subst hp6
  obtain ⟨_, n0, ⟨x0, z0, rfl, m0⟩, bb0, e0⟩ := arg_struct (X := X0 p) Tryz.underlying37 (cw.opn_condI (env p)) (hval 0 37 v0 rfl rfl) h0 (sz_param hsz0 0 (t := 37) (by rw [Tryz.params6]; rfl) rfl)
  have hE : (env p).G W := ⟨Tryz.laysM219.s1_3 W hsh, hP, hw1, hw2⟩
  refine ((law_sp p x0 z0 (by omega)).law (X := X0 p) (W := W) (vs := #[_]) hE rfl (rep_args1 e0) ⟨_, _, Tryz.func6, by kernel_rfl, rfl⟩).mono fun e W' ⟨he, hg⟩ => ?_
  subst he
  exact ⟨_, rfl, law_post (s := Rows.condWritesSpec) laidOut (by kernel_rfl) (by kernel_rfl) Tryz.underlying4 rfl (fun ds h => by rw [Tryz.params6] at h; obtain ⟨_, rfl⟩ := ds_one h; rfl) hW' hg⟩

theorem over : Rows.condWritesUptoRow.holds Tryz.pinned (Rows.OpenSpec.upto Rows.condWritesSpec) :=
  OpenClaim.holds_of_cond 6 Tryz.f6 rfl rfl rfl rfl rfl rfl rfl ⟨rfl, rfl, rfl, rfl, rfl⟩ rfl rfl rfl rfl rfl (by kernel_rfl) Tryz.func6 (by kernel_rfl)
    (of_decide_eq_true (by kernel_rfl)) (by unfold Func.isWrapper; first | (rw [if_pos (by decide +kernel)]; kernel_rfl) | (rw [if_neg (by decide +kernel)]; exact ⟨rfl, rfl⟩))
    (fun os started H enc _ F => by rw [OpenClaim.pre_eq_preRow]; exact lifted os started H enc F)

/-- No parameter wants a stand-in. -/
theorem plain (f : FuncId) (fn : Func) (hf : Tryz.pinned.checked.prog.funcNamed Rows.condWritesUptoRow.func = some f) (hfn : Tryz.pinned.checked.prog.funcs[f]? = some fn) :
    Rows.condWritesUptoCard.stood.looks = Tryz.pinned.checked.prog.looks [] ∧ ∀ (j : Nat) t, fn.params[j]? = some t → Tryz.pinned.checked.prog.wantsStandIn t = false := by
  obtain rfl : f = 6 := Option.some.inj ((show Tryz.prog.funcNamed Rows.condWritesUptoRow.func = some 6 by kernel_rfl).symm.trans hf) |>.symm
  obtain rfl : fn = Tryz.f6 := (Option.some.inj (Tryz.func6.symm.trans hfn)).symm
  refine ⟨by kernel_rfl, fun j t ht => ?_⟩
  have hall : Tryz.f6.params.toList.all (fun t => !Tryz.prog.wantsStandIn t) = true := by kernel_rfl
  have := List.all_eq_true.1 hall t (by rw [← Array.getElem?_toList] at ht; exact List.mem_of_getElem? ht)
  exact (show Tryz.prog.wantsStandIn t = false by simpa using this)

/-- The statement: the tied card. -/
theorem proved : Rows.CondWritesUptoCardSaid :=
  Claim7.holds_tied_plain_at .later [] _ _ _ _ over (fun _ h => by cases h) (by kernel_rfl) (fun _ h => by cases h) condWritesUpto_row_tie rfl ⟨rfl, rfl⟩ (by kernel_rfl) rfl plain (by kernel_rfl)
#print axioms proved
end Go.Proofs.YtemiaognopgnnaaGreatDoor.condWrites
