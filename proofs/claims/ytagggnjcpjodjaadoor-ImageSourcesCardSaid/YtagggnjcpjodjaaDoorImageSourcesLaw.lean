/-
  ImageSources: for all strings, ints and rows of ints, asset.SourceSet answers as the reference's SourceSetOf.
-/
import Derived.Test.YtagggnjcpjodjaaDoorPb2
import Derived.Test.YtagggnjcpjodjaaDoorInt
import Derived.Test.YtagggnjcpjodjaaDoorCard
import Derived.Test.YtagggnjcpjodjaaDoorCards
import Derived.Test.YtagggnjcpjodjaaDoorTie
namespace Go.Proofs.YtagggnjcpjodjaaDoor.imageSources
open Go.RowKit Go.WideShapes Go.ChangeShapes Go.ChangeAt
set_option linter.unusedVariables false
set_option linter.unusedSimpArgs false

set_option maxRecDepth 100000 in
theorem law_sp (E : Env) (hP : ∀ w, E.G w → P10 w) (hML : ∀ w, E.G w → ML w) (a : ByteArray) (n : Int) (l : List Int) (hl : l.length ≤ 100000000000000) : Sp (cx Tryd.prog mixed tyT_ok E) 3 [dS a, i64 n, .sl 1 8 l.length (fun i _ => i64 (l.getD i 0))] (dB true) := srcset.imageSources_sp E hP hML a n l hl

/-- What the call may count on. -/
noncomputable def env : Env := ⟨max (0 + 1) (1 + 1), fun w => P10 w ∧ ML w, fun w h => Nat.max_le.2 ⟨h.1.lt, h.2.lt⟩, fun w w' h hk => ⟨h.1.kp (Nat.lt_of_lt_of_le (Nat.lt_succ_self _) (Nat.le_max_left _ _)) hk, h.2.kp (hk.mono (Nat.le_max_right _ _) (fun _ _ h => h))⟩, fun _ _ => False, fun _ _ h => h.elim, fun _ => .opq, fun _ _ _ => .opq⟩
noncomputable abbrev X0 : Cx RC := cx Tryd.prog mixed tyT_ok env
theorem own : ownKnob Tryd.prog.godebug = none := by kernel_rfl
theorem laidOut : laidOutB Tryd.prog = true := by kernel_rfl
/-- A world that holds the listed variables. -/
noncomputable def laidWorld (os : Os) : World := putVars (World.holding Tryd.prog os ⟨#[], #[], []⟩) [(2, Rows.laid_math_bits_deBruijn32tab), (3, Rows.laid_math_bits_deBruijn64tab), (0, Rows.laid_internal_strconv_uint64pow10), (5, Rows.laid_unicode_utf8_acceptRanges), (4, Rows.laid_unicode_utf8_first)]
theorem laid_met (os : Os) : laidMet Tryd.prog Rows.imageSourcesRow.laid ((laidWorld os).forCall (fun _ _ => 0) ⟨#[], #[.string ⟨#[]⟩, .int .i64 0, .slice none 0 0], []⟩).memory :=
  laidMet_of_run' 12 (by kernel_rfl) (by kernel_rfl)
theorem reads (os : Os) {H : Type} (enc : TypeId × Value → H) : ∃ places, DataW.whole enc Tryd.prog ((laidWorld os).forCall (fun _ _ => 0) ⟨#[], #[.string ⟨#[]⟩, .int .i64 0, .slice none 0 0], []⟩).memory Tryd.f3.params.toList Rows.imageSourcesSpec.vars false (#[.string ⟨#[]⟩, .int .i64 0, .slice none 0 0] : Array Value).toList 8 = some ([.lit (.string []), .lit (.int .i64 0), .nil], [], places) :=
  ⟨[], by kernel_rfl⟩

set_option maxRecDepth 100000 in
theorem lifted (os : Os) (started : os.Started) (H : Type) (enc : TypeId × Value → H) (F : Stop.Interp) :
    ReturnsInHanded {} Tryd.checked os 3 .any ((OpenSpec.ofChange Rows.imageSourcesSpec).preRow enc Tryd.prog Tryd.f3 Rows.imageSourcesRow.domain false Rows.imageSourcesRow.laid) (((OpenSpec.ofChange Rows.imageSourcesSpec).at F).post enc Tryd.prog Tryd.f3 false true false false) := by
  obtain ⟨places, hx⟩ := reads os enc
  refine returnsInHanded_of_row (C := Tryd.checked) (s := (OpenSpec.ofChange Rows.imageSourcesSpec)) own started (by kernel_rfl) Tryd.func3
    (witness_row_at (enc := enc) (C := Tryd.checked) false (laidWorld os) #[.string ⟨#[]⟩, .int .i64 0, .slice none 0 0] (putVars_os _ _) (by kernel_rfl) (by kernel_rfl) (by kernel_rfl)
      (OpenSpec.preRow_of_cond 8 hx (by kernel_rfl) (fun k hk => by cases hk) (by kernel_rfl) (laid_met os))) ?_
  intro W base args ds gs before hval0 hW _ hcond hsz0 hL hsh _
  have hval : ∀ (j : Nat) t v, Tryd.f3.params[j]? = some t → args[j]? = some v → Value.okWide Tryd.prog W .any base t v := hval0
  have hW' := hW
  obtain ⟨p, q, hA0, hV, rfl, hfz, hnd⟩ := hW
  have hA : DataW.TrodAll enc Tryd.prog W 0 (fun _ => true) true Tryd.f3.params.toList args.toList ds p := hA0
  rw [Tryd.params3] at hA hval
  obtain ⟨v0, vs0, d0, ds0, p0, q0, hargs, rfl, rfl, h0, r0⟩ := trodAll_cons hA
  obtain ⟨v1, vs1, d1, ds1, p1, q1, rfl, rfl, rfl, h1, r1⟩ := trodAll_cons r0
  obtain ⟨v2, vs2, d2, ds2, p2, q2, rfl, rfl, rfl, h2, r2⟩ := trodAll_cons r1
  obtain ⟨rfl, rfl, rfl⟩ := trodAll_nil r2
  obtain rfl : args = #[v0, v1, v2] := by cases args; simp_all
  obtain ⟨rfl, rfl⟩ := trodVars_none (show DataW.TrodVars enc Tryd.prog W (fun _ => true) [] gs q from hV)
  simp only [List.append_nil] at hsz0
  obtain ⟨a0, rfl, _, _, _⟩ := Go.ChangeMaps.open_string Tryd.underlying9 (hval 0 9 v0 rfl rfl) h0
  have w0 := str_sz Tryd.underlying9 (rdg_param hsz0 0 (t := 9) (by rw [Tryd.params3]; rfl) rfl h0)
  have e0 : Rep view (MW W) W b0 (dS a0) _ := .v (decide_eq_true (Nat.le_trans w0 (by decide)))
  obtain ⟨a1, rfl, _, _, w1⟩ := open_int Tryd.underlying3 (hval 1 3 v1 rfl rfl) h1
  have e1 : Rep view (MW W) W b0 (i64 a1) _ := .v rfl
  obtain ⟨_, n2, ⟨l, rfl, hl, _⟩, bb2, e2⟩ := arg_slice (X := X0) Tryd.underlying22 (ints.opn_ints env) (hval 2 22 v2 rfl rfl) h2 (sz_param hsz0 2 (t := 22) (by rw [Tryd.params3]; rfl) rfl)
  obtain ⟨ps, hps⟩ := laidMet_of_H (by kernel_rfl) hL
  have hE : env.G W := ⟨tab_at (g := 0) (n := 20) (by kernel_rfl) (by kernel_rfl) Tryd.underlying101 Tryd.underlying81 (by kernel_rfl) (by kernel_rfl) _ 2 ps (by kernel_rfl) hps, Tryd.laysM146.s1_3 W hsh⟩
  refine ((law_sp env (fun w h => h.1) (fun w h => h.2) a0 a1 l hl).law (X := X0) (W := W) (vs := #[_, _, _]) hE rfl (rep_args3 e0 e1 e2) ⟨_, _, Tryd.func3, by kernel_rfl, rfl⟩).mono fun e W' ⟨he, hg⟩ => ?_
  subst he
  exact ⟨_, rfl, law_post (s := Rows.imageSourcesSpec) laidOut (by kernel_rfl) (by kernel_rfl) Tryd.underlying4 rfl (fun ds h => by rw [Tryd.params3] at h; obtain ⟨_, _, _, rfl⟩ := ds_three h; rfl) hW' hg⟩

theorem j1 : (Rows.imageSourcesRow.inPlace == Program.inPlace Tryd.pinned.checked.prog 3) = true := by kernel_rfl
theorem j2 : (Rows.imageSourcesRow.unfollowed == Program.unfollowed Tryd.pinned.checked.prog 3) = true := by kernel_rfl
theorem j3 : (Rows.imageSourcesRow.recurses == Program.recurses Tryd.pinned.checked.prog 3) = true := by kernel_rfl
theorem j4 : (Rows.imageSourcesRow.named == Program.varsNamed Tryd.pinned.checked.prog 3) = true := by kernel_rfl
theorem closed : joinedFacts Tryd.pinned.checked.prog 3 Tryd.f3 ((OpenSpec.ofChange Rows.imageSourcesSpec)).bare Rows.imageSourcesRow = true := by
  unfold joinedFacts
  rw [j1, j2, j3, j4]
  kernel_rfl

theorem over : Rows.imageSourcesRow.holds Tryd.pinned (OpenSpec.ofChange Rows.imageSourcesSpec) :=
  OpenClaim.holds_of_cond 3 Tryd.f3 rfl rfl rfl rfl rfl rfl rfl ⟨rfl, rfl, rfl, rfl, rfl⟩ rfl rfl rfl rfl rfl (by kernel_rfl) Tryd.func3 closed
    (of_decide_eq_true (by kernel_rfl)) (by unfold Func.isWrapper; first | (rw [if_pos (by decide +kernel)]; kernel_rfl) | (rw [if_neg (by decide +kernel)]; exact ⟨rfl, rfl⟩))
    (fun os started H enc _ F => by rw [OpenClaim.pre_eq_preRow]; exact lifted os started H enc F)

/-- No parameter wants a stand-in. -/
theorem plain (f : FuncId) (fn : Func) (hf : Tryd.pinned.checked.prog.funcNamed Rows.imageSourcesRow.func = some f) (hfn : Tryd.pinned.checked.prog.funcs[f]? = some fn) :
    Rows.imageSourcesCard.stood.looks = Tryd.pinned.checked.prog.looks [] ∧ ∀ (j : Nat) t, fn.params[j]? = some t → Tryd.pinned.checked.prog.wantsStandIn t = false := by
  obtain rfl : f = 3 := Option.some.inj ((show Tryd.prog.funcNamed Rows.imageSourcesRow.func = some 3 by kernel_rfl).symm.trans hf) |>.symm
  obtain rfl : fn = Tryd.f3 := (Option.some.inj (Tryd.func3.symm.trans hfn)).symm
  refine ⟨by kernel_rfl, fun j t ht => ?_⟩
  have hall : Tryd.f3.params.toList.all (fun t => !Tryd.prog.wantsStandIn t) = true := by kernel_rfl
  have := List.all_eq_true.1 hall t (by rw [← Array.getElem?_toList] at ht; exact List.mem_of_getElem? ht)
  exact (show Tryd.prog.wantsStandIn t = false by simpa using this)

/-- The statement: the tied card. -/
theorem proved : Rows.ImageSourcesCardSaid :=
  Claim7.holds_tied_plain_at .later [] _ _ _ _ over (fun _ h => by cases h) (by kernel_rfl) (fun _ h => by cases h) imageSources_row_tie rfl ⟨rfl, rfl⟩ (by kernel_rfl) rfl plain (by kernel_rfl)
#print axioms proved
end Go.Proofs.YtagggnjcpjodjaaDoor.imageSources
