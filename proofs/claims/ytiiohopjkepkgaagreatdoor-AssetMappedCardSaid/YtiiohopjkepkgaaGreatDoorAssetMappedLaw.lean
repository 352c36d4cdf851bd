/-
  AssetMapped: for all strings, asset.ReadMap answers as the reference's ReadMapOf.
-/
import Derived.Test.YtiiohopjkepkgaaGreatDoorElems
import Derived.Test.YtiiohopjkepkgaaGreatDoorP
import Derived.Test.YtiiohopjkepkgaaGreatDoorMd7
import Derived.Test.YtiiohopjkepkgaaGreatDoorMd8
import Derived.Test.YtiiohopjkepkgaaGreatDoorCard
import Derived.Test.YtiiohopjkepkgaaGreatDoorCards
import Derived.Test.YtiiohopjkepkgaaGreatDoorTie
import Derived.Lay
import Derived.Deep.DeepWitnessRowRef
namespace Go.Proofs.YtiiohopjkepkgaaGreatDoor.assetMapped
open Go.RowKit Go.WideShapes Go.ChangeShapes Go.ChangeAt
set_option linter.unusedVariables false
set_option linter.unusedSimpArgs false

set_option maxRecDepth 100000 in
theorem law_sp (E : Env) (hML : ∀ w, E.G w → ML w) (hER : ∀ w, E.G w → md.ER w) (s : ByteArray) : Sp (cx Tryz.prog mixed tyT_ok E) 4 [dS s] (dB true) := md.assetMapped_sp E hML hER s

/-- What the call may count on. -/
noncomputable def env : Env := ⟨max (2 + 1) (0 + 1), fun w => md.ER w ∧ ML w, fun w h => Nat.max_le.2 ⟨h.1.lt, h.2.lt⟩, fun w w' h hk => ⟨h.1.kp (Nat.lt_of_lt_of_le (Nat.lt_succ_self _) (Nat.le_max_left _ _)) hk, h.2.kp (hk.mono (Nat.le_max_right _ _) (fun _ _ h => h))⟩, fun _ _ => False, fun _ _ h => h.elim, fun _ => .opq, fun _ _ _ => .opq⟩
noncomputable abbrev X0 : Cx RC := cx Tryz.prog mixed tyT_ok env
theorem own : ownKnob Tryz.prog.godebug = none := by kernel_rfl
theorem laidOut : laidOutB Tryz.prog = true := by kernel_rfl
/-- A world that holds the listed variables. -/
noncomputable def laidWorld (os : Os) : World := World.laidAll Tryz.prog os Rows.assetMappedRow.laid
theorem laid_met (os : Os) : laidMet Tryz.prog Rows.assetMappedRow.laid ((laidWorld os).forCall (fun _ _ => 0) ⟨#[], #[.string ⟨#[]⟩], []⟩).memory :=
  laidMet_laidAll _ (by kernel_rfl) (by kernel_rfl)
theorem reads (os : Os) {H : Type} (enc : TypeId × Value → H) : ∃ places, DataW.whole enc Tryz.prog ((laidWorld os).forCall (fun _ _ => 0) ⟨#[], #[.string ⟨#[]⟩], []⟩).memory Tryz.f4.params.toList Rows.assetMappedSpec.vars false (#[.string ⟨#[]⟩] : Array Value).toList 8 = some ([.lit (.string [])], [], places) :=
  ⟨[], by kernel_rfl⟩

set_option maxRecDepth 100000 in
theorem lifted (os : Os) (started : os.Started) (H : Type) (enc : TypeId × Value → H) (F : Stop.Interp) :
    ReturnsInHanded {} Tryz.checked os 4 .any ((OpenSpec.ofChange Rows.assetMappedSpec).preRow enc Tryz.prog Tryz.f4 Rows.assetMappedRow.domain false Rows.assetMappedRow.laid) (((OpenSpec.ofChange Rows.assetMappedSpec).at F).post enc Tryz.prog Tryz.f4 false true false false) := by
  obtain ⟨places, hx⟩ := reads os enc
  refine returnsInHanded_of_row (C := Tryz.checked) (s := (OpenSpec.ofChange Rows.assetMappedSpec)) own started (by kernel_rfl) Tryz.func4
    (witness_row_atRef (enc := enc) (C := Tryz.checked) false (laidWorld os) #[.string ⟨#[]⟩] (World.laidAll_os _ _ _) (by kernel_rfl) (by kernel_rfl) (by kernel_rfl)
      (OpenSpec.preRow_of_cond 8 hx (by kernel_rfl) (fun k hk => by cases hk) (by kernel_rfl) (laid_met os))) ?_
  intro W base args ds gs before hval0 hW _ hcond hsz0 hL hsh _
  have hval : ∀ (j : Nat) t v, Tryz.f4.params[j]? = some t → args[j]? = some v → Value.okWide Tryz.prog W .any base t v := hval0
  have hW' := hW
  obtain ⟨p, q, hA0, hV, rfl, hfz, hnd⟩ := hW
  have hA : DataW.TrodAll enc Tryz.prog W 0 (fun _ => true) true Tryz.f4.params.toList args.toList ds p := hA0
  rw [Tryz.params4] at hA hval
  obtain ⟨v0, vs0, d0, ds0, p0, q0, hargs, rfl, rfl, h0, r0⟩ := trodAll_cons hA
  obtain ⟨rfl, rfl, rfl⟩ := trodAll_nil r0
  obtain rfl : args = #[v0] := by cases args; simp_all
  obtain ⟨rfl, rfl⟩ := trodVars_none (show DataW.TrodVars enc Tryz.prog W (fun _ => true) [] gs q from hV)
  simp only [List.append_nil] at hsz0
  obtain ⟨a0, rfl, _, _, _⟩ := Go.ChangeMaps.open_string Tryz.underlying9 (hval 0 9 v0 rfl rfl) h0
  have w0 := str_sz Tryz.underlying9 (rdg_param hsz0 0 (t := 9) (by rw [Tryz.params4]; rfl) rfl h0)
  have e0 : Rep view (MW W) W b0 (dS a0) _ := .v (decide_eq_true (Nat.le_trans w0 (by decide)))
  obtain ⟨ps, hps⟩ := laidMet_of_H (by kernel_rfl) hL
  have hE : env.G W := ⟨md.iface_at (name := "strconv.ErrRange") (g := 2) (t := 55) (by kernel_rfl) (by kernel_rfl) Tryz.underlying55 _ 4 ps Rows.laid_strconv_ErrRange (by kernel_rfl) hps, Tryz.laysM146.s1_3 W hsh⟩
  refine ((law_sp env (fun w h => h.2) (fun w h => h.1) a0).law (X := X0) (W := W) (vs := #[_]) hE rfl (rep_args1 e0) ⟨_, _, Tryz.func4, by kernel_rfl, rfl⟩).mono fun e W' ⟨he, hg⟩ => ?_
  subst he
  exact ⟨_, rfl, law_post (s := Rows.assetMappedSpec) laidOut (by kernel_rfl) (by kernel_rfl) Tryz.underlying4 rfl (fun ds h => by rw [Tryz.params4] at h; obtain ⟨_, rfl⟩ := ds_one h; rfl) hW' hg⟩

theorem j1 : (Rows.assetMappedRow.inPlace == Program.inPlace Tryz.pinned.checked.prog 4) = true := by kernel_rfl
theorem j2 : (Rows.assetMappedRow.unfollowed == Program.unfollowed Tryz.pinned.checked.prog 4) = true := by kernel_rfl
theorem j3 : (Rows.assetMappedRow.recurses == Program.recurses Tryz.pinned.checked.prog 4) = true := by kernel_rfl
theorem j4 : (Rows.assetMappedRow.named == Program.varsNamed Tryz.pinned.checked.prog 4) = true := by kernel_rfl
theorem closed : joinedFacts Tryz.pinned.checked.prog 4 Tryz.f4 ((OpenSpec.ofChange Rows.assetMappedSpec)).bare Rows.assetMappedRow = true := by
  unfold joinedFacts
  rw [j1, j2, j3, j4]
  kernel_rfl

theorem over : Rows.assetMappedRow.holds Tryz.pinned (OpenSpec.ofChange Rows.assetMappedSpec) :=
  OpenClaim.holds_of_cond 4 Tryz.f4 rfl rfl rfl rfl rfl rfl rfl ⟨rfl, rfl, rfl, rfl, rfl⟩ rfl rfl rfl rfl rfl (by kernel_rfl) Tryz.func4 closed
    (of_decide_eq_true (by kernel_rfl)) (by unfold Func.isWrapper; first | (rw [if_pos (by decide +kernel)]; kernel_rfl) | (rw [if_neg (by decide +kernel)]; exact ⟨rfl, rfl⟩))
    (fun os started H enc _ F => by rw [OpenClaim.pre_eq_preRow]; exact lifted os started H enc F)

/-- No parameter wants a stand-in. -/
theorem plain (f : FuncId) (fn : Func) (hf : Tryz.pinned.checked.prog.funcNamed Rows.assetMappedRow.func = some f) (hfn : Tryz.pinned.checked.prog.funcs[f]? = some fn) :
    Rows.assetMappedCard.stood.looks = Tryz.pinned.checked.prog.looks [] ∧ ∀ (j : Nat) t, fn.params[j]? = some t → Tryz.pinned.checked.prog.wantsStandIn t = false := by
  obtain rfl : f = 4 := Option.some.inj ((show Tryz.prog.funcNamed Rows.assetMappedRow.func = some 4 by kernel_rfl).symm.trans hf) |>.symm
  obtain rfl : fn = Tryz.f4 := (Option.some.inj (Tryz.func4.symm.trans hfn)).symm
  refine ⟨by kernel_rfl, fun j t ht => ?_⟩
  have hall : Tryz.f4.params.toList.all (fun t => !Tryz.prog.wantsStandIn t) = true := by kernel_rfl
  have := List.all_eq_true.1 hall t (by rw [← Array.getElem?_toList] at ht; exact List.mem_of_getElem? ht)
  exact (show Tryz.prog.wantsStandIn t = false by simpa using this)

/-- The statement: the tied card. -/
theorem proved : Rows.AssetMappedCardSaid :=
  Claim7.holds_tied_plain_at .later [] _ _ _ _ over (fun _ h => by cases h) (by kernel_rfl) (fun _ h => by cases h) assetMapped_row_tie rfl ⟨rfl, rfl⟩ (by kernel_rfl) rfl plain (by kernel_rfl)
#print axioms proved
end Go.Proofs.YtiiohopjkepkgaaGreatDoor.assetMapped
