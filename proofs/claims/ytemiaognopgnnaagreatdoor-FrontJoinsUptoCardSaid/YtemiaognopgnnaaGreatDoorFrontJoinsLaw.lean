/-
  FrontJoins: for all values and strings of bulk at most 1048576 together, conf.Join answers as the reference's JoinOf.
-/
import Derived.Test.YtemiaognopgnnaaGreatDoorFj0
import Derived.Test.YtemiaognopgnnaaGreatDoorCard
import Derived.Test.YtemiaognopgnnaaGreatDoorCards
import Derived.Test.YtemiaognopgnnaaGreatDoorTie
namespace Go.Proofs.YtemiaognopgnnaaGreatDoor.frontJoins
open Go.RowKit Go.WideShapes Go.ChangeShapes Go.ChangeAt
set_option linter.unusedVariables false
set_option linter.unusedSimpArgs false

set_option maxRecDepth 100000 in
theorem law_sp (E : Env) (hP : ∀ w, E.G w → P10 w) (hML : ∀ w, E.G w → ML w) (v : Vu) (s : ByteArray) (hv : v.i64) (hw : v.wt ≤ 5000000) (hr : s.size ≤ 1000000000) : Sp (cx Tryz.prog mixed tyT_ok E) 5 [encV v, dS s] (dB true) := fj.frontJoins_sp E hP hML v s hv hw hr

theorem str_bulk {H : Type} {enc : TypeId × Value → H} {P : Program} {W : World} {t : TypeId} {a : ByteArray} {d : DataW H} {p : List MemPlace} (ht : P.underlying t = some .string) (h : DataW.Trod enc P W 0 (fun _ => true) true t (.string a) d p) (hsz : Sz P t d) : a.size + 1 ≤ Rows.uptoBulk d := by
  obtain ⟨fu, hfu⟩ := h
  obtain ⟨s, e, _, hb⟩ := trod_str_w ht hfu hsz
  have e : [Value.string a] = [.string s] := e
  injection e with e
  injection e with e
  subst e
  omega
/-- What the call may count on. -/
noncomputable def env : Env := ⟨max (5 + 1) (2 + 1), fun w => P10 w ∧ ML w, fun w h => Nat.max_le.2 ⟨h.1.lt, h.2.lt⟩, fun w w' h hk => ⟨h.1.kp (Nat.lt_of_lt_of_le (Nat.lt_succ_self _) (Nat.le_max_left _ _)) hk, h.2.kp (hk.mono (Nat.le_max_right _ _) (fun _ _ h => h))⟩, fun _ _ => False, fun _ _ h => h.elim, fun _ => .opq, fun _ _ _ => .opq⟩
noncomputable abbrev X0 : Cx RC := cx Tryz.prog mixed tyT_ok env
theorem own : ownKnob Tryz.prog.godebug = none := by kernel_rfl
theorem laidOut : laidOutB Tryz.prog = true := by kernel_rfl
/-- A world that holds the listed variables. -/
noncomputable def laidWorld (os : Os) : World := putVars (World.holding Tryz.prog os ⟨#[], #[], []⟩) [(6, Rows.laid_math_bits_deBruijn32tab), (7, Rows.laid_math_bits_deBruijn64tab), (5, Rows.laid_internal_strconv_uint64pow10), (4, Rows.laid_unicode_utf8_acceptRanges), (3, Rows.laid_unicode_utf8_first)]
theorem laid_met (os : Os) : laidMet Tryz.prog Rows.frontJoinsUptoRow.laid ((laidWorld os).forCall (fun _ _ => 0) ⟨#[], #[.agg #[.int .i64 0, .bool false, .int .i64 0, .string ⟨#[]⟩, .slice none 0 0, .slice none 0 0], .string ⟨#[]⟩], []⟩).memory :=
  laidMet_of_run' 12 (by kernel_rfl) (by kernel_rfl)
theorem reads (os : Os) {H : Type} (enc : TypeId × Value → H) : ∃ places, DataW.whole enc Tryz.prog ((laidWorld os).forCall (fun _ _ => 0) ⟨#[], #[.agg #[.int .i64 0, .bool false, .int .i64 0, .string ⟨#[]⟩, .slice none 0 0, .slice none 0 0], .string ⟨#[]⟩], []⟩).memory Tryz.f5.params.toList Rows.frontJoinsSpec.vars false (#[.agg #[.int .i64 0, .bool false, .int .i64 0, .string ⟨#[]⟩, .slice none 0 0, .slice none 0 0], .string ⟨#[]⟩] : Array Value).toList 8 = some ([.agg [.lit (.int .i64 0), .lit (.bool false), .lit (.int .i64 0), .lit (.string []), .nil, .nil], .lit (.string [])], [], places) :=
  ⟨[], by kernel_rfl⟩

set_option maxRecDepth 100000 in
theorem lifted (os : Os) (started : os.Started) (H : Type) (enc : TypeId × Value → H) (F : Stop.Interp) :
    ReturnsInHanded {} Tryz.checked os 5 .any ((Rows.OpenSpec.upto Rows.frontJoinsSpec).preRow enc Tryz.prog Tryz.f5 Rows.frontJoinsUptoRow.domain false Rows.frontJoinsUptoRow.laid) (((Rows.OpenSpec.upto Rows.frontJoinsSpec).at F).post enc Tryz.prog Tryz.f5 false true false false) := by
  obtain ⟨places, hx⟩ := reads os enc
  refine returnsInHanded_of_row (C := Tryz.checked) (s := (Rows.OpenSpec.upto Rows.frontJoinsSpec)) own started (by kernel_rfl) Tryz.func5
    (witness_row_at (enc := enc) (C := Tryz.checked) false (laidWorld os) #[.agg #[.int .i64 0, .bool false, .int .i64 0, .string ⟨#[]⟩, .slice none 0 0, .slice none 0 0], .string ⟨#[]⟩] (putVars_os _ _) (by kernel_rfl) (by kernel_rfl) (by kernel_rfl)
      (OpenSpec.preRow_of_cond 8 hx (by kernel_rfl) (fun k hk => by cases hk; kernel_rfl) (by kernel_rfl) (laid_met os))) ?_
  intro W base args ds gs before hval0 hW _ hcond hsz0 hL hsh _
  have hk := hcond _ rfl
  have hval : ∀ (j : Nat) t v, Tryz.f5.params[j]? = some t → args[j]? = some v → Value.okWide Tryz.prog W .any base t v := hval0
  have hW' := hW
  obtain ⟨p, q, hA0, hV, rfl, hfz, hnd⟩ := hW
  have hA : DataW.TrodAll enc Tryz.prog W 0 (fun _ => true) true Tryz.f5.params.toList args.toList ds p := hA0
  rw [Tryz.params5] at hA hval
  obtain ⟨v0, vs0, d0, ds0, p0, q0, hargs, rfl, rfl, h0, r0⟩ := trodAll_cons hA
  obtain ⟨v1, vs1, d1, ds1, p1, q1, rfl, rfl, rfl, h1, r1⟩ := trodAll_cons r0
  obtain ⟨rfl, rfl, rfl⟩ := trodAll_nil r1
  obtain rfl : args = #[v0, v1] := by cases args; simp_all
  obtain ⟨rfl, rfl⟩ := trodVars_none (show DataW.TrodVars enc Tryz.prog W (fun _ => true) [] gs q from hV)
  simp only [List.append_nil] at hsz0
  simp only [List.append_nil] at hk
  have hbulk : Rows.uptoBulkAll ([d0, d1] : List (DataW H)) ≤ 1048576 := of_decide_eq_true hk
  simp only [Rows.uptoBulkAll] at hbulk
  obtain ⟨_, n0, ⟨x0, z0, rfl, m0⟩, bb0, e0⟩ := arg_struct (X := X0) Tryz.underlying29 (opn_val env) (hval 0 29 v0 rfl rfl) h0 (sz_param hsz0 0 (t := 29) (by rw [Tryz.params5]; rfl) rfl)
  obtain ⟨a1, rfl, _, _, _⟩ := Go.ChangeMaps.open_string Tryz.underlying9 (hval 1 9 v1 rfl rfl) h1
  have w1 := str_sz Tryz.underlying9 (rdg_param hsz0 1 (t := 9) (by rw [Tryz.params5]; rfl) rfl h1)
  have e1 : Rep view (MW W) W b0 (dS a1) _ := .v (decide_eq_true (Nat.le_trans w1 (by decide)))
  have m1 := str_bulk Tryz.underlying9 h1 (sz_param hsz0 1 (t := 9) (by rw [Tryz.params5]; rfl) rfl)
  obtain ⟨ps, hps⟩ := laidMet_of_H (by kernel_rfl) hL
  have hE : env.G W := ⟨tab_at (g := 5) (n := 20) (by kernel_rfl) (by kernel_rfl) Tryz.underlying256 Tryz.underlying170 (by kernel_rfl) (by kernel_rfl) _ 2 ps (by kernel_rfl) hps, Tryz.laysM219.s1_3 W hsh⟩
  refine ((law_sp env (fun w h => h.1) (fun w h => h.2) x0 a1 z0 (by omega) (by omega)).law (X := X0) (W := W) (vs := #[_, _]) hE rfl (rep_args2 e0 e1) ⟨_, _, Tryz.func5, by kernel_rfl, rfl⟩).mono fun e W' ⟨he, hg⟩ => ?_
  subst he
  exact ⟨_, rfl, law_post (s := Rows.frontJoinsSpec) laidOut (by kernel_rfl) (by kernel_rfl) Tryz.underlying4 rfl (fun ds h => by rw [Tryz.params5] at h; obtain ⟨_, _, rfl⟩ := ds_two h; rfl) hW' hg⟩

theorem j1 : (Rows.frontJoinsUptoRow.inPlace == Program.inPlace Tryz.pinned.checked.prog 5) = true := by kernel_rfl
theorem j2 : (Rows.frontJoinsUptoRow.unfollowed == Program.unfollowed Tryz.pinned.checked.prog 5) = true := by kernel_rfl
theorem j3 : (Rows.frontJoinsUptoRow.recurses == Program.recurses Tryz.pinned.checked.prog 5) = true := by kernel_rfl
theorem j4 : (Rows.frontJoinsUptoRow.named == Program.varsNamed Tryz.pinned.checked.prog 5) = true := by kernel_rfl
theorem closed : joinedFacts Tryz.pinned.checked.prog 5 Tryz.f5 ((Rows.OpenSpec.upto Rows.frontJoinsSpec)).bare Rows.frontJoinsUptoRow = true := by
  unfold joinedFacts
  rw [j1, j2, j3, j4]
  kernel_rfl

theorem over : Rows.frontJoinsUptoRow.holds Tryz.pinned (Rows.OpenSpec.upto Rows.frontJoinsSpec) :=
  OpenClaim.holds_of_cond 5 Tryz.f5 rfl rfl rfl rfl rfl rfl rfl ⟨rfl, rfl, rfl, rfl, rfl⟩ rfl rfl rfl rfl rfl (by kernel_rfl) Tryz.func5 closed
    (of_decide_eq_true (by kernel_rfl)) (by unfold Func.isWrapper; first | (rw [if_pos (by decide +kernel)]; kernel_rfl) | (rw [if_neg (by decide +kernel)]; exact ⟨rfl, rfl⟩))
    (fun os started H enc _ F => by rw [OpenClaim.pre_eq_preRow]; exact lifted os started H enc F)

/-- No parameter wants a stand-in. -/
theorem plain (f : FuncId) (fn : Func) (hf : Tryz.pinned.checked.prog.funcNamed Rows.frontJoinsUptoRow.func = some f) (hfn : Tryz.pinned.checked.prog.funcs[f]? = some fn) :
    Rows.frontJoinsUptoCard.stood.looks = Tryz.pinned.checked.prog.looks [] ∧ ∀ (j : Nat) t, fn.params[j]? = some t → Tryz.pinned.checked.prog.wantsStandIn t = false := by
  obtain rfl : f = 5 := Option.some.inj ((show Tryz.prog.funcNamed Rows.frontJoinsUptoRow.func = some 5 by kernel_rfl).symm.trans hf) |>.symm
  obtain rfl : fn = Tryz.f5 := (Option.some.inj (Tryz.func5.symm.trans hfn)).symm
  refine ⟨by kernel_rfl, fun j t ht => ?_⟩
  have hall : Tryz.f5.params.toList.all (fun t => !Tryz.prog.wantsStandIn t) = true := by kernel_rfl
  have := List.all_eq_true.1 hall t (by rw [← Array.getElem?_toList] at ht; exact List.mem_of_getElem? ht)
  exact (show Tryz.prog.wantsStandIn t = false by simpa using this)

/-- The statement: the tied card. -/
theorem proved : Rows.FrontJoinsUptoCardSaid :=
  Claim7.holds_tied_plain_at .later [] _ _ _ _ over (fun _ h => by cases h) (by kernel_rfl) (fun _ h => by cases h) frontJoinsUpto_row_tie rfl ⟨rfl, rfl⟩ (by kernel_rfl) rfl plain (by kernel_rfl)
#print axioms proved
end Go.Proofs.YtemiaognopgnnaaGreatDoor.frontJoins
