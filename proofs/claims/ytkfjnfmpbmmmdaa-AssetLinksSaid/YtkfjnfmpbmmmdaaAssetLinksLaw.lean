/-
  AssetLinks: for all strings, asset.Links answers as the reference's LinksOf.
-/
import Derived.Test.YtkfjnfmpbmmmdaaLk2
import Derived.Test.YtkfjnfmpbmmmdaaCard
import Derived.Test.YtkfjnfmpbmmmdaaP
import Derived.Test.YtkfjnfmpbmmmdaaL1
import Derived.Test.YtkfjnfmpbmmmdaaL3
import Derived.Test.YtkfjnfmpbmmmdaaRows
import Derived.HandedShaped
namespace Go.Proofs.Ytkfjnfmpbmmmdaa.assetLinks
open Go.RowKit Go.WideShapes Go.ChangeShapes Go.ChangeAt
set_option linter.unusedVariables false
set_option linter.unusedSimpArgs false

set_option maxRecDepth 100000 in
theorem law_sp (E : Env) (hML : ∀ w, E.G w → tk.ML w) (s : ByteArray) : Sp (cx Try.prog mixed tyT_ok E) 4 [dS s] (dB true) := tk.assetLinks_sp E hML s

/-- What the call may count on. -/
noncomputable def env : Env := ⟨0 + 1, fun w => tk.ML w, fun w h => h.lt, fun w w' h hk => h.kp hk, fun _ _ => False, fun _ _ h => h.elim, fun _ => .opq, fun _ _ _ => .opq⟩
noncomputable abbrev X0 : Cx RC := cx Try.prog mixed tyT_ok env
theorem own : ownKnob Try.prog.godebug = none := by kernel_rfl
theorem laidOut : laidOutB Try.prog = true := by kernel_rfl

set_option maxRecDepth 100000 in
theorem lifted (os : Os) (started : os.Started) (H : Type) (enc : TypeId × Value → H) :
    ReturnsInHanded {} Try.checked os 4 .any (Rows.assetLinksSpec.pre6 enc Try.prog Try.f4 Rows.assetLinksRow.domain false) (Rows.assetLinksSpec.post enc Try.prog Try.f4 false true false false) := by
  refine returnsInHanded_of_change_shaped (C := Try.checked) own started (by kernel_rfl) Try.func4
    (ChangeSpec.witness6 (enc := enc) (C := Try.checked) false ⟨#[], #[.string ⟨#[]⟩], []⟩ 8 (by kernel_rfl) (by kernel_rfl) (by kernel_rfl) (by kernel_rfl)) ?_
  intro W base args ds gs before hval0 hW _ hsz0 hsh _
  have hval : ∀ (j : Nat) t v, Try.f4.params[j]? = some t → args[j]? = some v → Value.okWide Try.prog W .any base t v := hval0
  have hW' := hW
  obtain ⟨p, q, hA0, hV, rfl, hfz, hnd⟩ := hW
  have hA : DataW.TrodAll enc Try.prog W 0 (fun _ => true) true Try.f4.params.toList args.toList ds p := hA0
  rw [Try.params4] at hA hval
  obtain ⟨v0, vs0, d0, ds0, p0, q0, hargs, rfl, rfl, h0, r0⟩ := trodAll_cons hA
  obtain ⟨rfl, rfl, rfl⟩ := trodAll_nil r0
  obtain rfl : args = #[v0] := by cases args; simp_all
  obtain ⟨rfl, rfl⟩ := trodVars_none (show DataW.TrodVars enc Try.prog W (fun _ => true) [] gs q from hV)
  simp only [List.append_nil] at hsz0
  obtain ⟨a0, rfl, _, _, _⟩ := Go.ChangeMaps.open_string Try.underlying9 (hval 0 9 v0 rfl rfl) h0
  have w0 := str_sz Try.underlying9 (rdg_param hsz0 0 (t := 9) (by rw [Try.params4]; rfl) rfl h0)
  have e0 : Rep view (MW W) W b0 (dS a0) _ := .v (decide_eq_true (Nat.le_trans w0 (by decide)))
  have hE : env.G W := Try.laysM143.s1_3 W hsh
  refine ((law_sp env (fun w h => h) a0).law (X := X0) (W := W) (vs := #[_]) hE rfl (rep_args1 e0) ⟨_, _, Try.func4, by kernel_rfl, rfl⟩).mono fun e W' ⟨he, hg⟩ => ?_
  subst he
  exact ⟨_, rfl, law_post (s := Rows.assetLinksSpec) laidOut (by kernel_rfl) (by kernel_rfl) Try.underlying4 rfl (fun ds h => by rw [Try.params4] at h; obtain ⟨_, rfl⟩ := ds_one h; rfl) hW' hg⟩

theorem j1 : (Rows.assetLinksRow.inPlace == Program.inPlace Try.pinned.checked.prog 4) = true := by kernel_rfl
theorem j2 : (Rows.assetLinksRow.unfollowed == Program.unfollowed Try.pinned.checked.prog 4) = true := by kernel_rfl
theorem j3 : (Rows.assetLinksRow.recurses == Program.recurses Try.pinned.checked.prog 4) = true := by kernel_rfl
theorem j4 : (Rows.assetLinksRow.named == Program.varsNamed Try.pinned.checked.prog 4) = true := by kernel_rfl
theorem closed : joinedFacts Try.pinned.checked.prog 4 Try.f4 ((OpenSpec.ofChange Rows.assetLinksSpec)).bare Rows.assetLinksRow = true := by
  unfold joinedFacts
  rw [j1, j2, j3, j4]
  kernel_rfl

theorem over : Rows.assetLinksRow.holds Try.pinned (OpenSpec.ofChange Rows.assetLinksSpec) :=
  OpenClaim.holds_of_wide 4 Try.f4 rfl rfl rfl rfl rfl rfl rfl ⟨rfl, rfl, rfl, rfl, rfl⟩ rfl rfl rfl rfl rfl (by kernel_rfl) Try.func4 closed
    (of_decide_eq_true (by kernel_rfl)) (by unfold Func.isWrapper; first | (rw [if_pos (by decide +kernel)]; kernel_rfl) | (rw [if_neg (by decide +kernel)]; exact ⟨rfl, rfl⟩))
    (fun os started H enc _ => lifted os started H enc)

/-- The statement. -/
theorem proved : Rows.AssetLinksSaid :=
  over
#print axioms proved
end Go.Proofs.Ytkfjnfmpbmmmdaa.assetLinks
