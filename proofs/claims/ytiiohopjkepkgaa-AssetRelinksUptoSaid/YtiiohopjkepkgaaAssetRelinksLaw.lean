/-
  AssetRelinks: for all strings and rows of names of bulk at most 1048576, asset.Relink answers as the reference's RelinkOf.
-/
import Derived.Test.YtiiohopjkepkgaaRl5
import Derived.Test.YtiiohopjkepkgaaRlO
import Derived.Test.YtiiohopjkepkgaaCard
import Derived.Test.YtiiohopjkepkgaaL1
import Derived.Test.YtiiohopjkepkgaaL3
import Derived.Test.YtiiohopjkepkgaaRows
namespace Go.Proofs.Ytiiohopjkepkgaa.assetRelinks
open Go.RowKit Go.WideShapes Go.ChangeShapes Go.ChangeAt
set_option linter.unusedVariables false
set_option linter.unusedSimpArgs false

set_option maxRecDepth 100000 in
theorem law_sp (E : Env) (hML : ∀ w, E.G w → tk.ML w) (s : ByteArray) (l : List rl.Nm) (hl : ∀ t ∈ l, t.2.size ≤ 1048576) : Sp (cx Try.prog mixed tyT_ok E) 3 [dS s, rl.encNs l] (dB true) := rl.assetRelinks_sp E hML s l hl

theorem str_bulk {H : Type} {enc : TypeId × Value → H} {P : Program} {W : World} {t : TypeId} {a : ByteArray} {d : DataW H} {p : List MemPlace} (ht : P.underlying t = some .string) (h : DataW.Trod enc P W 0 (fun _ => true) true t (.string a) d p) (hsz : Sz P t d) : a.size + 1 ≤ Rows.uptoBulk d := by
  obtain ⟨fu, hfu⟩ := h
  obtain ⟨s, e, _, hb⟩ := trod_str_w ht hfu hsz
  have e : [Value.string a] = [.string s] := e
  injection e with e
  injection e with e
  subst e
  omega
/-- What the call may count on. -/
noncomputable def env : Env := ⟨0 + 1, fun w => tk.ML w, fun w h => h.lt, fun w w' h hk => h.kp hk, fun _ _ => False, fun _ _ h => h.elim, fun _ => .opq, fun _ _ _ => .opq⟩
noncomputable abbrev X0 : Cx RC := cx Try.prog mixed tyT_ok env
theorem own : ownKnob Try.prog.godebug = none := by kernel_rfl
theorem laidOut : laidOutB Try.prog = true := by kernel_rfl

set_option maxRecDepth 100000 in
theorem lifted (os : Os) (started : os.Started) (H : Type) (enc : TypeId × Value → H) (F : Stop.Interp) :
    ReturnsInHanded {} Try.checked os 3 .any ((Rows.OpenSpec.upto Rows.assetRelinksSpec).pre6 enc Try.prog Try.f3 Rows.assetRelinksUptoRow.domain false) (((Rows.OpenSpec.upto Rows.assetRelinksSpec).at F).post enc Try.prog Try.f3 false true false false) := by
  refine rl.cond_shaped (C := Try.checked) (s := (Rows.OpenSpec.upto Rows.assetRelinksSpec)) (k := Rows.uptoSmall) rfl own started (by kernel_rfl) Try.func3
    (OpenSpec.witness (enc := enc) (C := Try.checked) (s := (Rows.OpenSpec.upto Rows.assetRelinksSpec)) (k := Rows.uptoSmall) rfl false ⟨#[], #[.string ⟨#[]⟩, .slice none 0 0], []⟩ 8 (by kernel_rfl) (by kernel_rfl) (by kernel_rfl)
      (x := ([.lit (.string []), .nil], [], [])) (by kernel_rfl) rfl (by kernel_rfl)) ?_
  intro W base args ds gs before hval0 hW _ hk hsz0 hsh _
  have hval : ∀ (j : Nat) t v, Try.f3.params[j]? = some t → args[j]? = some v → Value.okWide Try.prog W .any base t v := hval0
  have hW' := hW
  obtain ⟨p, q, hA0, hV, rfl, hfz, hnd⟩ := hW
  have hA : DataW.TrodAll enc Try.prog W 0 (fun _ => true) true Try.f3.params.toList args.toList ds p := hA0
  rw [Try.params3] at hA hval
  obtain ⟨v0, vs0, d0, ds0, p0, q0, hargs, rfl, rfl, h0, r0⟩ := trodAll_cons hA
  obtain ⟨v1, vs1, d1, ds1, p1, q1, rfl, rfl, rfl, h1, r1⟩ := trodAll_cons r0
  obtain ⟨rfl, rfl, rfl⟩ := trodAll_nil r1
  obtain rfl : args = #[v0, v1] := by cases args; simp_all
  obtain ⟨rfl, rfl⟩ := trodVars_none (show DataW.TrodVars enc Try.prog W (fun _ => true) [] gs q from hV)
  simp only [List.append_nil] at hsz0
  simp only [List.append_nil] at hk
  have hbulk : Rows.uptoBulkAll ([d0, d1] : List (DataW H)) ≤ 1048576 := of_decide_eq_true hk
  simp only [Rows.uptoBulkAll] at hbulk
  obtain ⟨a0, rfl, _, _, _⟩ := Go.ChangeMaps.open_string Try.underlying9 (hval 0 9 v0 rfl rfl) h0
  have w0 := str_sz Try.underlying9 (rdg_param hsz0 0 (t := 9) (by rw [Try.params3]; rfl) rfl h0)
  have e0 : Rep view (MW W) W b0 (dS a0) _ := .v (decide_eq_true (Nat.le_trans w0 (by decide)))
  have m0 := str_bulk Try.underlying9 h0 (sz_param hsz0 0 (t := 9) (by rw [Try.params3]; rfl) rfl)
  obtain ⟨_, n1, ⟨l, rfl, hl⟩, bb1, e1⟩ := arg_slice (X := X0) Try.underlying22 (rl.opn_names env) (hval 1 22 v1 rfl rfl) h1 (sz_param hsz0 1 (t := 22) (by rw [Try.params3]; rfl) rfl)
  have hE : env.G W := Try.laysM143.s1_3 W hsh
  refine ((law_sp env (fun w h => h) a0 l (fun t ht => by have := hl t ht; omega)).law (X := X0) (W := W) (vs := #[_, _]) hE rfl (rep_args2 e0 e1) ⟨_, _, Try.func3, by kernel_rfl, rfl⟩).mono fun e W' ⟨he, hg⟩ => ?_
  subst he
  exact ⟨_, rfl, law_post (s := Rows.assetRelinksSpec) laidOut (by kernel_rfl) (by kernel_rfl) Try.underlying4 rfl (fun ds h => by rw [Try.params3] at h; obtain ⟨_, _, rfl⟩ := ds_two h; rfl) hW' hg⟩

theorem over : Rows.assetRelinksUptoRow.holds Try.pinned (Rows.OpenSpec.upto Rows.assetRelinksSpec) :=
  OpenClaim.holds_of_cond 3 Try.f3 rfl rfl rfl rfl rfl rfl rfl ⟨rfl, rfl, rfl, rfl, rfl⟩ rfl rfl rfl rfl rfl (by kernel_rfl) Try.func3 (by kernel_rfl)
    (of_decide_eq_true (by kernel_rfl)) (by unfold Func.isWrapper; first | (rw [if_pos (by decide +kernel)]; kernel_rfl) | (rw [if_neg (by decide +kernel)]; exact ⟨rfl, rfl⟩))
    (fun os started H enc _ F => lifted os started H enc F)

/-- The statement. -/
theorem proved : Rows.AssetRelinksUptoSaid :=
  over
#print axioms proved
end Go.Proofs.Ytiiohopjkepkgaa.assetRelinks
