/-
  ListNear: for all orders and items, list.Near answers as sorting and looking up says.
-/
import Derived.Test.YtagggnjcpjodjaaIt5
import Derived.Test.YtagggnjcpjodjaaCard
import Derived.Test.YtagggnjcpjodjaaL1
import Derived.Test.YtagggnjcpjodjaaL3
import Derived.Test.YtagggnjcpjodjaaRows
namespace Go.Proofs.Ytagggnjcpjodjaa.listNear
open Go.RowKit Go.WideShapes Go.ChangeShapes Go.ChangeAt
set_option linter.unusedVariables false
set_option linter.unusedSimpArgs false

set_option maxRecDepth 100000 in
theorem law_sp (E : Env) (l : List Int) (x : Int) (hl : l.length * 8 ≤ 140737488355328) (hB : ∀ k ∈ l, In64 k) : Sp (cx Try.prog mixed tyT_ok E) 4 [it.encI l, i64 x] (dB true) := it.listNear_sp E l x hl hB

/-- What the call may count on. -/
noncomputable def env : Env := ⟨0, fun _ => True, fun _ _ => Nat.zero_le _, fun _ _ _ _ => trivial, fun _ _ => False, fun _ _ h => h.elim, fun _ => .opq, fun _ _ _ => .opq⟩
noncomputable abbrev X0 : Cx RC := cx Try.prog mixed tyT_ok env
theorem own : ownKnob Try.prog.godebug = none := by kernel_rfl
theorem laidOut : laidOutB Try.prog = true := by kernel_rfl

set_option maxRecDepth 100000 in
theorem lifted (os : Os) (started : os.Started) (H : Type) (enc : TypeId × Value → H) :
    ReturnsInHanded {} Try.checked os 4 .any (Rows.listNearSpec.pre6 enc Try.prog Try.f4 Rows.listNearRow.domain false) (Rows.listNearSpec.post enc Try.prog Try.f4 false true false false) := by
  refine returnsInHanded_of_change_sized (C := Try.checked) own started (by kernel_rfl) Try.func4
    (ChangeSpec.witness6 (enc := enc) (C := Try.checked) false ⟨#[], #[.slice none 0 0, .int .i64 0], []⟩ 8 (by kernel_rfl) (by kernel_rfl) (by kernel_rfl) (by kernel_rfl)) ?_
  intro W base args ds gs before hval0 hW _ hsz0 _
  have hval : ∀ (j : Nat) t v, Try.f4.params[j]? = some t → args[j]? = some v → Value.okWide Try.prog W .any base t v := hval0
  have hW' := hW
  obtain ⟨p, q, hA0, hV, rfl, hfz, hnd⟩ := hW
  have hA : DataW.TrodAll enc Try.prog W 0 (fun _ => true) true Try.f4.params.toList args.toList ds p := hA0
  rw [Try.params4] at hA hval
  obtain ⟨v0, vs0, d0, ds0, p0, q0, hargs, rfl, rfl, h0, r0⟩ := trodAll_cons hA
  obtain ⟨v1, vs1, d1, ds1, p1, q1, rfl, rfl, rfl, h1, r1⟩ := trodAll_cons r0
  obtain ⟨rfl, rfl, rfl⟩ := trodAll_nil r1
  obtain rfl : args = #[v0, v1] := by cases args; simp_all
  obtain ⟨rfl, rfl⟩ := trodVars_none (show DataW.TrodVars enc Try.prog W (fun _ => true) [] gs q from hV)
  simp only [List.append_nil] at hsz0
  obtain ⟨_, n0, ⟨l, rfl, hl, hB⟩, bb0, e0⟩ := arg_slice (X := X0) Try.underlying22 (it.opn_ints2 env) (hval 0 22 v0 rfl rfl) h0 (sz_param hsz0 0 (t := 22) (by rw [Try.params4]; rfl) rfl)
  obtain ⟨a1, rfl, _, _, w1⟩ := open_int Try.underlying3 (hval 1 3 v1 rfl rfl) h1
  have e1 : Rep view (MW W) W b0 (i64 a1) _ := .v rfl
  have hE : env.G W := trivial
  refine ((law_sp env l a1 hl hB).law (X := X0) (W := W) (vs := #[_, _]) hE rfl (rep_args2 e0 e1) ⟨_, _, Try.func4, by kernel_rfl, rfl⟩).mono fun e W' ⟨he, hg⟩ => ?_
  subst he
  exact ⟨_, rfl, law_post (s := Rows.listNearSpec) laidOut (by kernel_rfl) (by kernel_rfl) Try.underlying4 rfl (fun ds h => by rw [Try.params4] at h; obtain ⟨_, _, rfl⟩ := ds_two h; rfl) hW' hg⟩

theorem over : Rows.listNearRow.holds Try.pinned (OpenSpec.ofChange Rows.listNearSpec) :=
  OpenClaim.holds_of_wide 4 Try.f4 rfl rfl rfl rfl rfl rfl rfl ⟨rfl, rfl, rfl, rfl, rfl⟩ rfl rfl rfl rfl rfl (by kernel_rfl) Try.func4 (by kernel_rfl)
    (of_decide_eq_true (by kernel_rfl)) (by unfold Func.isWrapper; first | (rw [if_pos (by decide +kernel)]; kernel_rfl) | (rw [if_neg (by decide +kernel)]; exact ⟨rfl, rfl⟩))
    (fun os started H enc _ => lifted os started H enc)

/-- The statement. -/
theorem proved : Rows.ListNearSaid :=
  over
#print axioms proved
end Go.Proofs.Ytagggnjcpjodjaa.listNear
