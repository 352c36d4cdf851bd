/-
  AssetMinifies: for all kinds and strings, asset.Minify answers as the reference's MinifyOf.
-/
import Derived.Test.YtdmbodlkkdeaoaaMi0
import Derived.Test.YtdmbodlkkdeaoaaCard
import Derived.Test.YtdmbodlkkdeaoaaP
import Derived.Test.YtdmbodlkkdeaoaaL1
import Derived.Test.YtdmbodlkkdeaoaaL3
import Derived.Test.YtdmbodlkkdeaoaaRows
import Derived.HandedShaped
namespace Go.Proofs.Ytdmbodlkkdeaoaa.assetMinifies
open Go.RowKit Go.WideShapes Go.ChangeShapes Go.ChangeAt
set_option linter.unusedVariables false
set_option linter.unusedSimpArgs false

set_option maxRecDepth 100000 in
theorem law_sp (E : Env) (hML : ∀ w, E.G w → tk.ML w) (k : Int) (s : ByteArray) : Sp (cx Try.prog mixed tyT_ok E) 4 [i64 k, dS s] (dB true) := mi.assetMinifies_sp E hML k s

/-- What the call may count on. -/
noncomputable def env : Env := ⟨0 + 1, fun w => tk.ML w, fun w h => h.lt, fun w w' h hk => h.kp hk, fun _ _ => False, fun _ _ h => h.elim, fun _ => .opq, fun _ _ _ => .opq⟩
noncomputable abbrev X0 : Cx RC := cx Try.prog mixed tyT_ok env
theorem own : ownKnob Try.prog.godebug = none := by kernel_rfl
theorem laidOut : laidOutB Try.prog = true := by kernel_rfl

set_option maxRecDepth 100000 in
theorem lifted (os : Os) (started : os.Started) (H : Type) (enc : TypeId × Value → H) :
    ReturnsInHanded {} Try.checked os 4 .any (Rows.assetMinifiesSpec.pre6 enc Try.prog Try.f4 Rows.assetMinifiesRow.domain false) (Rows.assetMinifiesSpec.post enc Try.prog Try.f4 false true false false) := by
  refine returnsInHanded_of_change_shaped (C := Try.checked) own started (by kernel_rfl) Try.func4
    (ChangeSpec.witness6 (enc := enc) (C := Try.checked) false ⟨#[], #[.int .i64 0, .string ⟨#[]⟩], []⟩ 8 (by kernel_rfl) (by kernel_rfl) (by kernel_rfl) (by kernel_rfl)) ?_
  intro W base args ds gs before hval0 hW _ hsz0 hsh _
  have hval : ∀ (j : Nat) t v, Try.f4.params[j]? = some t → args[j]? = some v → Value.okWide Try.prog W .any base t v := hval0
  have hW' := hW
  obtain ⟨p, q, hA0, hV, rfl, hfz, hnd⟩ := hW
  have hA : DataW.TrodAll enc Try.prog W 0 (fun _ => true) true Try.f4.params.toList args.toList ds p := hA0
  rw [Try.params4] at hA hval
  obtain ⟨v0, vs0, d0, ds0, p0, q0, hargs, rfl, rfl, h0, r0⟩ := trodAll_cons hA
  obtain ⟨v1, vs1, d1, ds1, p1, q1, rfl, rfl, rfl, h1, r1⟩ := trodAll_cons r0
  obtain ⟨rfl, rfl, rfl⟩ := trodAll_nil r1
  obtain rfl : args = #[v0, v1] := by cases args; simp_all
  obtain ⟨rfl, rfl⟩ := trodVars_none (show DataW.TrodVars enc Try.prog W (fun _ => true) [] gs q from hV)
  simp only [List.append_nil] at hsz0
  obtain ⟨a0, rfl, _, _, w0⟩ := open_int Try.underlying3 (hval 0 3 v0 rfl rfl) h0
  have e0 : Rep view (MW W) W b0 (i64 a0) _ := .v rfl
  obtain ⟨a1, rfl, _, _, _⟩ := Go.ChangeMaps.open_string Try.underlying9 (hval 1 9 v1 rfl rfl) h1
  have w1 := str_sz Try.underlying9 (rdg_param hsz0 1 (t := 9) (by rw [Try.params4]; rfl) rfl h1)
  have e1 : Rep view (MW W) W b0 (dS a1) _ := .v (decide_eq_true (Nat.le_trans w1 (by decide)))
  have hE : env.G W := Try.laysM143.s1_3 W hsh
  refine ((law_sp env (fun w h => h) a0 a1).law (X := X0) (W := W) (vs := #[_, _]) hE rfl (rep_args2 e0 e1) ⟨_, _, Try.func4, by kernel_rfl, rfl⟩).mono fun e W' ⟨he, hg⟩ => ?_
  subst he
  exact ⟨_, rfl, law_post (s := Rows.assetMinifiesSpec) laidOut (by kernel_rfl) (by kernel_rfl) Try.underlying4 rfl (fun ds h => by rw [Try.params4] at h; obtain ⟨_, _, rfl⟩ := ds_two h; rfl) hW' hg⟩

theorem over : Rows.assetMinifiesRow.holds Try.pinned (OpenSpec.ofChange Rows.assetMinifiesSpec) :=
  OpenClaim.holds_of_wide 4 Try.f4 rfl rfl rfl rfl rfl rfl rfl ⟨rfl, rfl, rfl, rfl, rfl⟩ rfl rfl rfl rfl rfl (by kernel_rfl) Try.func4 (by kernel_rfl)
    (of_decide_eq_true (by kernel_rfl)) (by unfold Func.isWrapper; first | (rw [if_pos (by decide +kernel)]; kernel_rfl) | (rw [if_neg (by decide +kernel)]; exact ⟨rfl, rfl⟩))
    (fun os started H enc _ => lifted os started H enc)

/-- The statement. -/
theorem proved : Rows.AssetMinifiesSaid :=
  over
#print axioms proved
end Go.Proofs.Ytdmbodlkkdeaoaa.assetMinifies
