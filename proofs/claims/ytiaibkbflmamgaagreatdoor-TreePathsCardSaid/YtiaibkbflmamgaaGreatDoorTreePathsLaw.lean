/-
  TreePaths: for all strings, tree.CheckPath, CheckAddress, Slug and TitleOf answer as the reference.
-/
import Derived.Test.YtiaibkbflmamgaaGreatDoorElems
import Derived.Test.YtiaibkbflmamgaaGreatDoorP
import Derived.Test.YtiaibkbflmamgaaGreatDoorTp7
import Derived.Test.YtiaibkbflmamgaaGreatDoorCard
import Derived.Test.YtiaibkbflmamgaaGreatDoorCards
import Derived.Test.YtiaibkbflmamgaaGreatDoorTie
namespace Go.Proofs.YtiaibkbflmamgaaGreatDoor.treePaths
open Go.RowKit Go.WideShapes Go.ChangeShapes Go.ChangeAt
set_option linter.unusedVariables false
set_option linter.unusedSimpArgs false

set_option maxRecDepth 100000 in
theorem law_sp (E : Env) (hML : ∀ w, E.G w → ML w) (s : ByteArray) (hs : s.size ≤ 140737488351232) : Sp (cx Tryz.prog mixed tyT_ok E) 3 [dS s] (dB true) := by
  have h1 := r_isPath_sp E hML s
  have h2 := tp.isAddressR_sp E hML s
  have h3 := checkPath_sp E hML s
  have h4 := tp.checkAddress_sp E hML s
  have h5 := tp.slug_sp E s hs
  have h6 := tp.slugR_sp E s hs
  have h7 := tp.titleOf_sp E s hs
  have h8 := tp.titleR_sp E s hs
  unfold pathE at h3
  generalize pathB s = p at h1 h3
  generalize tp.addrB s = q at h2 h4
  generalize (⟨(tp.slug s.data.toList).toArray⟩ : ByteArray) = r at h5 h6
  generalize (⟨(tp.title s.data.toList).toArray⟩ : ByteArray) = t at h7 h8
  cases p <;> cases q
  all_goals
    simp only [if_true, if_false, Bool.false_eq_true, reduceIte] at h3 h4
  · refine Sp.body Tryz.func3 (by kernel_rfl) rfl (by kernel_rfl) (by kernel_rfl) (by kernel_rfl) ?_
    repeat' first
      | (refine facW_intro ?_; intro _)
      | refine Or.inl ?_
      | ((conv => whnf); first | (refine condW_dec ?_ ?_ <;> intro _) | refine condW_not ?_ | (refine condW_bool ?_ ?_ <;> intro _) | (refine nbC_t (fun _ => ?_) ?_) | (refine nbC_f ?_ (fun _ => ?_)))
      | refine And.intro (by first | omega | (simp only [Int.toNat_natCast] at *; omega) | (simp only [Nat.reduceAdd, Int.cast_ofNat_Int, true_and, and_true]; omega)  | kernel_rfl) ?_
      | refine RegW.run ?_
      | refine ⟨_, h1, ?_⟩
      | refine ⟨_, h2, ?_⟩
      | refine ⟨_, h3, ?_⟩
      | refine ⟨_, h4, ?_⟩
      | refine ⟨_, h5, ?_⟩
      | refine ⟨_, h6, ?_⟩
      | refine ⟨_, h7, ?_⟩
      | refine ⟨_, h8, ?_⟩
      | fail
    all_goals first
      | (exfalso; rename_i h; exact h rfl)
      | exact Dle.bo (by simp)
  · refine Sp.body Tryz.func3 (by kernel_rfl) rfl (by kernel_rfl) (by kernel_rfl) (by kernel_rfl) ?_
    repeat' first
      | (refine facW_intro ?_; intro _)
      | refine Or.inl ?_
      | ((conv => whnf); first | (refine condW_dec ?_ ?_ <;> intro _) | refine condW_not ?_ | (refine condW_bool ?_ ?_ <;> intro _) | (refine nbC_t (fun _ => ?_) ?_) | (refine nbC_f ?_ (fun _ => ?_)))
      | refine And.intro (by first | omega | (simp only [Int.toNat_natCast] at *; omega) | (simp only [Nat.reduceAdd, Int.cast_ofNat_Int, true_and, and_true]; omega)  | kernel_rfl) ?_
      | refine RegW.run ?_
      | refine ⟨_, h1, ?_⟩
      | refine ⟨_, h2, ?_⟩
      | refine ⟨_, h3, ?_⟩
      | refine ⟨_, h4, ?_⟩
      | refine ⟨_, h5, ?_⟩
      | refine ⟨_, h6, ?_⟩
      | refine ⟨_, h7, ?_⟩
      | refine ⟨_, h8, ?_⟩
      | fail
    all_goals first
      | (exfalso; rename_i h; exact h rfl)
      | exact Dle.bo (by simp)
  · refine Sp.body Tryz.func3 (by kernel_rfl) rfl (by kernel_rfl) (by kernel_rfl) (by kernel_rfl) ?_
    repeat' first
      | (refine facW_intro ?_; intro _)
      | refine Or.inl ?_
      | ((conv => whnf); first | (refine condW_dec ?_ ?_ <;> intro _) | refine condW_not ?_ | (refine condW_bool ?_ ?_ <;> intro _) | (refine nbC_t (fun _ => ?_) ?_) | (refine nbC_f ?_ (fun _ => ?_)))
      | refine And.intro (by first | omega | (simp only [Int.toNat_natCast] at *; omega) | (simp only [Nat.reduceAdd, Int.cast_ofNat_Int, true_and, and_true]; omega)  | kernel_rfl) ?_
      | refine RegW.run ?_
      | refine ⟨_, h1, ?_⟩
      | refine ⟨_, h2, ?_⟩
      | refine ⟨_, h3, ?_⟩
      | refine ⟨_, h4, ?_⟩
      | refine ⟨_, h5, ?_⟩
      | refine ⟨_, h6, ?_⟩
      | refine ⟨_, h7, ?_⟩
      | refine ⟨_, h8, ?_⟩
      | fail
    all_goals first
      | (exfalso; rename_i h; exact h rfl)
      | exact Dle.bo (by simp)
  · refine Sp.body Tryz.func3 (by kernel_rfl) rfl (by kernel_rfl) (by kernel_rfl) (by kernel_rfl) ?_
    repeat' first
      | (refine facW_intro ?_; intro _)
      | refine Or.inl ?_
      | ((conv => whnf); first | (refine condW_dec ?_ ?_ <;> intro _) | refine condW_not ?_ | (refine condW_bool ?_ ?_ <;> intro _) | (refine nbC_t (fun _ => ?_) ?_) | (refine nbC_f ?_ (fun _ => ?_)))
      | refine And.intro (by first | omega | (simp only [Int.toNat_natCast] at *; omega) | (simp only [Nat.reduceAdd, Int.cast_ofNat_Int, true_and, and_true]; omega)  | kernel_rfl) ?_
      | refine RegW.run ?_
      | refine ⟨_, h1, ?_⟩
      | refine ⟨_, h2, ?_⟩
      | refine ⟨_, h3, ?_⟩
      | refine ⟨_, h4, ?_⟩
      | refine ⟨_, h5, ?_⟩
      | refine ⟨_, h6, ?_⟩
      | refine ⟨_, h7, ?_⟩
      | refine ⟨_, h8, ?_⟩
      | fail
    all_goals first
      | (exfalso; rename_i h; exact h rfl)
      | exact Dle.bo (by simp)

/-- What the call may count on. -/
noncomputable def env : Env := ⟨0 + 1, fun w => ML w, fun w h => h.lt, fun w w' h hk => h.kp hk, fun _ _ => False, fun _ _ h => h.elim, fun _ => .opq, fun _ _ _ => .opq⟩
noncomputable abbrev X0 : Cx RC := cx Tryz.prog mixed tyT_ok env
theorem own : ownKnob Tryz.prog.godebug = none := by kernel_rfl
theorem laidOut : laidOutB Tryz.prog = true := by kernel_rfl
/-- A world that holds the listed variables. -/
noncomputable def laidWorld (os : Os) : World := putVars (World.holding Tryz.prog os ⟨#[], #[], []⟩) [(2, Rows.laid_unicode_utf8_acceptRanges), (1, Rows.laid_unicode_utf8_first)]
theorem laid_met (os : Os) : laidMet Tryz.prog Rows.treePathsRow.laid ((laidWorld os).forCall (fun _ _ => 0) ⟨#[], #[.string ⟨#[]⟩], []⟩).memory :=
  laidMet_of_run' 12 (by kernel_rfl) (by kernel_rfl)
theorem reads (os : Os) {H : Type} (enc : TypeId × Value → H) : ∃ places, DataW.whole enc Tryz.prog ((laidWorld os).forCall (fun _ _ => 0) ⟨#[], #[.string ⟨#[]⟩], []⟩).memory Tryz.f3.params.toList Rows.treePathsSpec.vars false (#[.string ⟨#[]⟩] : Array Value).toList 8 = some ([.lit (.string [])], [], places) :=
  ⟨[], by kernel_rfl⟩

set_option maxRecDepth 100000 in
theorem lifted (os : Os) (started : os.Started) (H : Type) (enc : TypeId × Value → H) (F : Stop.Interp) :
    ReturnsInHanded {} Tryz.checked os 3 .any ((OpenSpec.ofChange Rows.treePathsSpec).preRow enc Tryz.prog Tryz.f3 Rows.treePathsRow.domain false Rows.treePathsRow.laid) (((OpenSpec.ofChange Rows.treePathsSpec).at F).post enc Tryz.prog Tryz.f3 false true false false) := by
  obtain ⟨places, hx⟩ := reads os enc
  refine returnsInHanded_of_row (C := Tryz.checked) (s := (OpenSpec.ofChange Rows.treePathsSpec)) own started (by kernel_rfl) Tryz.func3
    (witness_row_at (enc := enc) (C := Tryz.checked) false (laidWorld os) #[.string ⟨#[]⟩] (putVars_os _ _) (by kernel_rfl) (by kernel_rfl) (by kernel_rfl)
      (OpenSpec.preRow_of_cond 8 hx (by kernel_rfl) (fun k hk => by cases hk) (by kernel_rfl) (laid_met os))) ?_
  intro W base args ds gs before hval0 hW _ hcond hsz0 hL hsh _
  have hval : ∀ (j : Nat) t v, Tryz.f3.params[j]? = some t → args[j]? = some v → Value.okWide Tryz.prog W .any base t v := hval0
  have hW' := hW
  obtain ⟨p, q, hA0, hV, rfl, hfz, hnd⟩ := hW
  have hA : DataW.TrodAll enc Tryz.prog W 0 (fun _ => true) true Tryz.f3.params.toList args.toList ds p := hA0
  rw [Tryz.params3] at hA hval
  obtain ⟨v0, vs0, d0, ds0, p0, q0, hargs, rfl, rfl, h0, r0⟩ := trodAll_cons hA
  obtain ⟨rfl, rfl, rfl⟩ := trodAll_nil r0
  obtain rfl : args = #[v0] := by cases args; simp_all
  obtain ⟨rfl, rfl⟩ := trodVars_none (show DataW.TrodVars enc Tryz.prog W (fun _ => true) [] gs q from hV)
  simp only [List.append_nil] at hsz0
  obtain ⟨a0, rfl, _, _, _⟩ := Go.ChangeMaps.open_string Tryz.underlying9 (hval 0 9 v0 rfl rfl) h0
  have w0 := str_sz Tryz.underlying9 (rdg_param hsz0 0 (t := 9) (by rw [Tryz.params3]; rfl) rfl h0)
  have e0 : Rep view (MW W) W b0 (dS a0) _ := .v (decide_eq_true (Nat.le_trans w0 (by decide)))
  have hE : env.G W := Tryz.laysM146.s1_3 W hsh
  refine ((law_sp env (fun w h => h) a0 w0).law (X := X0) (W := W) (vs := #[_]) hE rfl (rep_args1 e0) ⟨_, _, Tryz.func3, by kernel_rfl, rfl⟩).mono fun e W' ⟨he, hg⟩ => ?_
  subst he
  exact ⟨_, rfl, law_post (s := Rows.treePathsSpec) laidOut (by kernel_rfl) (by kernel_rfl) Tryz.underlying4 rfl (fun ds h => by rw [Tryz.params3] at h; obtain ⟨_, rfl⟩ := ds_one h; rfl) hW' hg⟩

theorem j1 : (Rows.treePathsRow.inPlace == Program.inPlace Tryz.pinned.checked.prog 3) = true := by kernel_rfl
theorem j2 : (Rows.treePathsRow.unfollowed == Program.unfollowed Tryz.pinned.checked.prog 3) = true := by kernel_rfl
theorem j3 : (Rows.treePathsRow.recurses == Program.recurses Tryz.pinned.checked.prog 3) = true := by kernel_rfl
theorem j4 : (Rows.treePathsRow.named == Program.varsNamed Tryz.pinned.checked.prog 3) = true := by kernel_rfl
theorem closed : joinedFacts Tryz.pinned.checked.prog 3 Tryz.f3 ((OpenSpec.ofChange Rows.treePathsSpec)).bare Rows.treePathsRow = true := by
  unfold joinedFacts
  rw [j1, j2, j3, j4]
  kernel_rfl

theorem over : Rows.treePathsRow.holds Tryz.pinned (OpenSpec.ofChange Rows.treePathsSpec) :=
  OpenClaim.holds_of_cond 3 Tryz.f3 rfl rfl rfl rfl rfl rfl rfl ⟨rfl, rfl, rfl, rfl, rfl⟩ rfl rfl rfl rfl rfl (by kernel_rfl) Tryz.func3 closed
    (of_decide_eq_true (by kernel_rfl)) (by unfold Func.isWrapper; first | (rw [if_pos (by decide +kernel)]; kernel_rfl) | (rw [if_neg (by decide +kernel)]; exact ⟨rfl, rfl⟩))
    (fun os started H enc _ F => by rw [OpenClaim.pre_eq_preRow]; exact lifted os started H enc F)

/-- No parameter wants a stand-in. -/
theorem plain (f : FuncId) (fn : Func) (hf : Tryz.pinned.checked.prog.funcNamed Rows.treePathsRow.func = some f) (hfn : Tryz.pinned.checked.prog.funcs[f]? = some fn) :
    Rows.treePathsCard.stood.looks = Tryz.pinned.checked.prog.looks [] ∧ ∀ (j : Nat) t, fn.params[j]? = some t → Tryz.pinned.checked.prog.wantsStandIn t = false := by
  obtain rfl : f = 3 := Option.some.inj ((show Tryz.prog.funcNamed Rows.treePathsRow.func = some 3 by kernel_rfl).symm.trans hf) |>.symm
  obtain rfl : fn = Tryz.f3 := (Option.some.inj (Tryz.func3.symm.trans hfn)).symm
  refine ⟨by kernel_rfl, fun j t ht => ?_⟩
  have hall : Tryz.f3.params.toList.all (fun t => !Tryz.prog.wantsStandIn t) = true := by kernel_rfl
  have := List.all_eq_true.1 hall t (by rw [← Array.getElem?_toList] at ht; exact List.mem_of_getElem? ht)
  exact (show Tryz.prog.wantsStandIn t = false by simpa using this)

/-- The statement: the tied card. -/
theorem proved : Rows.TreePathsCardSaid :=
  Claim7.holds_tied_plain_at .later [] _ _ _ _ over (fun _ h => by cases h) (by kernel_rfl) (fun _ h => by cases h) treePaths_row_tie rfl ⟨rfl, rfl⟩ (by kernel_rfl) rfl plain (by kernel_rfl)
#print axioms proved
end Go.Proofs.YtiaibkbflmamgaaGreatDoor.treePaths
