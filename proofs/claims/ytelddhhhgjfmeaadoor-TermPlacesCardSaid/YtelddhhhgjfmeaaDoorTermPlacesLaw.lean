/-
  TermPlaces: for all bases, names and numbers, list.TermAddress and PartAddress answer as the reference's AddressOfTerm and AddressOfPart; the row lists five tables of the library's.
-/
import Derived.Test.YtelddhhhgjfmeaaDoorTermP
import Derived.Test.YtelddhhhgjfmeaaDoorCard
import Derived.Test.YtelddhhhgjfmeaaDoorCards
import Derived.Test.YtelddhhhgjfmeaaDoorTie
namespace Go.Proofs.YtelddhhhgjfmeaaDoor.termPlaces
open Go.RowKit Go.WideShapes Go.ChangeShapes Go.ChangeAt
set_option linter.unusedVariables false

theorem from_w {P : Program} {f : Nat} {args : Array Value} {w : World} {Q : Ending → Prop} (h : ∀ w', Below w.heap.size w w' → Calls P f args w' fun e w'' => Q e ∧ Below w'.heap.size w' w'') :
    ∀ w', Below w.heap.size w w' → Calls P f args w' fun e w'' => Q e ∧ Below w.heap.size w w'' :=
  fun w' hb => (h w' hb).mono fun _ _ ⟨he, hb'⟩ => ⟨he, hb.trans (hb'.mono hb.size)⟩

set_option maxHeartbeats 2000000 in
set_option maxRecDepth 100000 in
theorem walk (b n : ByteArray) (k : Int) (w : World) (hb : b.size ≤ 140737488355328) (hn : n.size ≤ 140737488355328) (hk0 : -9223372036854775808 ≤ k) (hk1 : k ≤ 9223372036854775807) (hML : ML w) (hP : P10 w) :
    Calls Tryd.prog 5 #[.string b, .string n, .int .i64 k] w fun e w' => e = .returned (.bool true) ∧ Below w.heap.size w w' := by
  have H1 := hide (from_w fun w' (hb' : Below w.heap.size w w') => termAddress_any b n w' hb hn (hML.keep hb'))
  have H2 := hide (from_w fun w' (hb' : Below w.heap.size w w') => addressOfTerm_any b n w' hb hn (hML.keep hb'))
  have H3 := hide (from_w fun w' (hb' : Below w.heap.size w w') => partAddress_any b k w' hb hk0 hk1 (hML.keep hb') (hP.keep hb'))
  have H4 := hide (from_w fun w' (hb' : Below w.heap.size w w') => addressOfPart_any b k w' hb hk0 hk1 (hML.keep hb') (hP.keep hb'))
  obtain ⟨y1, h1⟩ : ∃ y, y = termS b n := ⟨_, rfl⟩
  obtain ⟨z1, h2⟩ : ∃ z, z = termF b n := ⟨_, rfl⟩
  obtain ⟨y2, h3⟩ : ∃ y, y = partS b k := ⟨_, rfl⟩
  obtain ⟨z2, h4⟩ : ∃ z, z = partF b k := ⟨_, rfl⟩
  rw [← h1, ← h2] at H1 H2
  rw [← h3, ← h4] at H3 H4
  clear h1 h2 h3 h4 hML hP hb hn
  go_enter Tryd.func5, Tryd.ntmps5
  go_wp2_with (first
    | (go_at_call 15; ((with_reducible refine (H1.out _ (by first | assumption | exact Below.refl _ _)).mono ?_); rintro e w1 ⟨rfl, hw1⟩))
    | (go_at_call 16; ((with_reducible refine (H2.out _ (by first | assumption | exact Below.refl _ _)).mono ?_); rintro e w2 ⟨rfl, hw2⟩))
    | (go_at_call 17; ((with_reducible refine (H3.out _ (by first | assumption | exact Below.refl _ _)).mono ?_); rintro e w3 ⟨rfl, hw3⟩))
    | (go_at_call 18; ((with_reducible refine (H4.out _ (by first | assumption | exact Below.refl _ _)).mono ?_); rintro e w4 ⟨rfl, hw4⟩)))
  go_ret
  exact ⟨rfl, by assumption⟩

theorem own : ownKnob Tryd.prog.godebug = none := by kernel_rfl
theorem laidOut : laidOutB Tryd.prog = true := by kernel_rfl
/-- A world that holds the listed variables. -/
noncomputable def laidWorld (os : Os) : World := putVars (World.holding Tryd.prog os ⟨#[], #[], []⟩) [(4, Rows.laid_math_bits_deBruijn32tab), (5, Rows.laid_math_bits_deBruijn64tab), (2, Rows.laid_internal_strconv_uint64pow10), (7, Rows.laid_unicode_utf8_acceptRanges), (6, Rows.laid_unicode_utf8_first)]
theorem laid_met (os : Os) : laidMet Tryd.prog Rows.termPlacesRow.laid ((laidWorld os).forCall (fun _ _ => 0) ⟨#[], #[.string ⟨#[]⟩, .string ⟨#[]⟩, .int .i64 0], []⟩).memory :=
  laidMet_of_run' 12 (by kernel_rfl) (by kernel_rfl)
theorem reads (os : Os) {H : Type} (enc : TypeId × Value → H) : ∃ places, DataW.whole enc Tryd.prog ((laidWorld os).forCall (fun _ _ => 0) ⟨#[], #[.string ⟨#[]⟩, .string ⟨#[]⟩, .int .i64 0], []⟩).memory Tryd.f5.params.toList Rows.termPlacesSpec.vars false (#[.string ⟨#[]⟩, .string ⟨#[]⟩, .int .i64 0] : Array Value).toList 8 = some ([.lit (.string []), .lit (.string []), .lit (.int .i64 0)], [], places) :=
  ⟨[], by kernel_rfl⟩

set_option maxRecDepth 100000 in
theorem lifted (os : Os) (started : os.Started) (H : Type) (enc : TypeId × Value → H) (F : Stop.Interp) :
    ReturnsInHanded {} Tryd.checked os 5 .any ((OpenSpec.ofChange Rows.termPlacesSpec).preRow enc Tryd.prog Tryd.f5 Rows.termPlacesRow.domain false Rows.termPlacesRow.laid) (((OpenSpec.ofChange Rows.termPlacesSpec).at F).post enc Tryd.prog Tryd.f5 false true false false) := by
  obtain ⟨places, hx⟩ := reads os enc
  refine returnsInHanded_of_row (C := Tryd.checked) (s := (OpenSpec.ofChange Rows.termPlacesSpec)) own started (by kernel_rfl) Tryd.func5
    (witness_row_at (enc := enc) (C := Tryd.checked) false (laidWorld os) #[.string ⟨#[]⟩, .string ⟨#[]⟩, .int .i64 0] (putVars_os _ _) (by kernel_rfl) (by kernel_rfl) (by kernel_rfl)
      (OpenSpec.preRow_of_cond 8 hx (by kernel_rfl) (fun k hk => by cases hk) (by kernel_rfl) (laid_met os))) ?_
  intro W base args ds gs before hval0 hW _ hcond hsz0 hL hsh _
  have hval : ∀ (j : Nat) t v, Tryd.f5.params[j]? = some t → args[j]? = some v → Value.okWide Tryd.prog W .any base t v := hval0
  have hW' := hW
  obtain ⟨p, q, hA0, hV, rfl, hfz, hnd⟩ := hW
  have hA : DataW.TrodAll enc Tryd.prog W 0 (fun _ => true) true Tryd.f5.params.toList args.toList ds p := hA0
  rw [Tryd.params5] at hA hval
  obtain ⟨v0, vs0, d0, ds0, p0, q0, hargs, rfl, rfl, h0, r0⟩ := trodAll_cons hA
  obtain ⟨v1, vs1, d1, ds1, p1, q1, rfl, rfl, rfl, h1, r1⟩ := trodAll_cons r0
  obtain ⟨v2, vs2, d2, ds2, p2, q2, rfl, rfl, rfl, h2, r2⟩ := trodAll_cons r1
  obtain ⟨rfl, rfl, rfl⟩ := trodAll_nil r2
  obtain rfl : args = #[v0, v1, v2] := by cases args; simp_all
  obtain ⟨rfl, rfl⟩ := trodVars_none (show DataW.TrodVars enc Tryd.prog W (fun _ => true) [] gs q from hV)
  simp only [List.append_nil] at hsz0
  obtain ⟨a0, rfl, _, _, _⟩ := Go.ChangeMaps.open_string Tryd.underlying9 (hval 0 9 v0 rfl rfl) h0
  have w0 := str_sz Tryd.underlying9 (rdg_param hsz0 0 (t := 9) (by rw [Tryd.params5]; rfl) rfl h0)
  obtain ⟨a1, rfl, _, _, _⟩ := Go.ChangeMaps.open_string Tryd.underlying9 (hval 1 9 v1 rfl rfl) h1
  have w1 := str_sz Tryd.underlying9 (rdg_param hsz0 1 (t := 9) (by rw [Tryd.params5]; rfl) rfl h1)
  obtain ⟨a2, rfl, _, _, w2⟩ := open_int Tryd.underlying3 (hval 2 3 v2 rfl rfl) h2
  have hml : ML W := Tryd.laysM146.s1_3 W hsh
  obtain ⟨ps, hps⟩ := laidMet_of_H (by kernel_rfl) hL
  have htab : P10 W := tab_at (g := 2) (n := 20) (by kernel_rfl) (by kernel_rfl) Tryd.underlying132 Tryd.underlying109 (by kernel_rfl) (by kernel_rfl) _ 2 ps (by kernel_rfl) hps
  refine (walk a0 a1 a2 W (by omega) (by omega) (in64_of w2).1 (in64_of w2).2 hml htab).mono fun e W' ⟨he, hg⟩ => ?_
  subst he
  exact ⟨_, rfl, law_post (s := Rows.termPlacesSpec) laidOut (by kernel_rfl) (by kernel_rfl) Tryd.underlying4 rfl (fun ds h => by rw [Tryd.params5] at h; obtain ⟨_, _, _, rfl⟩ := ds_three h; rfl) hW' hg⟩

theorem over : Rows.termPlacesRow.holds Tryd.pinned (OpenSpec.ofChange Rows.termPlacesSpec) :=
  OpenClaim.holds_of_cond 5 Tryd.f5 rfl rfl rfl rfl rfl rfl rfl ⟨rfl, rfl, rfl, rfl, rfl⟩ rfl rfl rfl rfl rfl (by kernel_rfl) Tryd.func5 (by kernel_rfl)
    (of_decide_eq_true (by kernel_rfl)) (by unfold Func.isWrapper; first | (rw [if_pos (by decide +kernel)]; kernel_rfl) | (rw [if_neg (by decide +kernel)]; exact ⟨rfl, rfl⟩))
    (fun os started H enc _ F => by rw [OpenClaim.pre_eq_preRow]; exact lifted os started H enc F)

/-- No parameter wants a stand-in. -/
theorem plain (f : FuncId) (fn : Func) (hf : Tryd.pinned.checked.prog.funcNamed Rows.termPlacesRow.func = some f) (hfn : Tryd.pinned.checked.prog.funcs[f]? = some fn) :
    Rows.termPlacesCard.stood.looks = Tryd.pinned.checked.prog.looks [] ∧ ∀ (j : Nat) t, fn.params[j]? = some t → Tryd.pinned.checked.prog.wantsStandIn t = false := by
  obtain rfl : f = 5 := Option.some.inj ((show Tryd.prog.funcNamed Rows.termPlacesRow.func = some 5 by kernel_rfl).symm.trans hf) |>.symm
  obtain rfl : fn = Tryd.f5 := (Option.some.inj (Tryd.func5.symm.trans hfn)).symm
  refine ⟨by kernel_rfl, fun j t ht => ?_⟩
  have hall : Tryd.f5.params.toList.all (fun t => !Tryd.prog.wantsStandIn t) = true := by kernel_rfl
  have := List.all_eq_true.1 hall t (by rw [← Array.getElem?_toList] at ht; exact List.mem_of_getElem? ht)
  exact (show Tryd.prog.wantsStandIn t = false by simpa using this)

/-- The statement: the tied card. -/
theorem proved : Rows.TermPlacesCardSaid :=
  Claim7.holds_tied_plain_at .later [] _ _ _ _ over (fun _ h => by cases h) (by kernel_rfl) (fun _ h => by cases h) termPlaces_row_tie rfl ⟨rfl, rfl⟩ (by kernel_rfl) rfl plain (by kernel_rfl)
#print axioms proved
end Go.Proofs.YtelddhhhgjfmeaaDoor.termPlaces
