/-
  ImageWrites: for all images m, asset.ImageString and CheckImage answer as the reference's ImageStringOf and ImageFault; the row lists three tables of the library's.
-/
import Derived.Test.YtkldjnopapipfaaDoorImg2
import Derived.Test.YtkldjnopapipfaaDoorCard
import Derived.Test.YtkldjnopapipfaaDoorCards
import Derived.Test.YtkldjnopapipfaaDoorTie
namespace Go.Proofs.YtkldjnopapipfaaDoor.imageWrites
open Go.RowKit Go.WideShapes Go.ChangeShapes Go.ChangeAt Go.Proofs.YtkldjnopapipfaaDoor.img
set_option linter.unusedVariables false
attribute [local go_sem ↓] Go.wp_at_zero Go.wp_at_succ

theorem keep3 {w w' : World} {b0 b1 b2 : Addr} {v0 v1 v2 : Value} (hb : Below w.heap.size w w') (h : w.cell? b0 = some v0 ∧ w.cell? b1 = some v1 ∧ w.cell? b2 = some v2) : w'.cell? b0 = some v0 ∧ w'.cell? b1 = some v1 ∧ w'.cell? b2 = some v2 := ⟨keept hb h.1, keept hb h.2.1, keept hb h.2.2⟩

set_option maxHeartbeats 2000000 in
set_option maxRecDepth 100000 in
theorem walk (a b : Int) (A : Option Addr) (n c : Nat) (l : List Int) (w : World) (hn : l.length = n) (hsl : SlOk A n c 8) (hr : Rd w 1 icell A l) (htab : w.cell? ⟨2, 15, none⟩ = some (.int .u8 4)) :
    Calls Tryd.prog 3 #[.agg #[.int .i64 a, .int .i64 b, .slice A n c]] w fun e w' => e = .returned (.bool true) ∧ Below w.heap.size w w' := by
  have H1 := hide (fun (w' : World) (hb' : Below w.heap.size w w') => imageString_any a b A n c l w' hn hsl (hr.keep hb') (keept hb' htab))
  have H2 := hide (fun (w' : World) (hb' : Below w.heap.size w w') => imageStringOf_any a b A n c l w' hn hsl (hr.keep hb') (keept hb' htab))
  have H3 := hide (fun (w' : World) (hb' : Below w.heap.size w w') => checkImage_any a b A n c l w' hn hsl (hr.keep hb'))
  have H4 := hide (fun (w' : World) (hb' : Below w.heap.size w w') => imageFault_any a b A n c l w' hn hsl (hr.keep hb'))
  obtain ⟨z, hz⟩ : ∃ z, z = imF a b n l := ⟨_, rfl⟩
  rw [← hz] at H1 H2 H3 H4
  obtain ⟨y, hy⟩ : ∃ y : ByteArray, y = if z = 0 then bstr (imgB a.toNat b.toNat l n) else ⟨#[]⟩ := ⟨_, rfl⟩
  unfold StrPost at H1 H2
  rw [← hy] at H1 H2
  clear hz hy hr hsl hn htab
  go_enter Tryd.func3, Tryd.ntmps3
  go_wp2_with (first
    | (go_at_call 4; refine (H1.out _ (Below.alloc (Below.refl _ _) (Nat.le_refl _) _)).mono ?_; rintro e w1 ⟨rfl, hb1⟩; have HO := hide ((OwnM.start w a b (.slice A n c) 24).keep hb1); have s0 := HO.out.s0; have s1 := HO.out.s1; have s2 := HO.out.s2)
    | (go_at_call 5; refine (H2.out _ HO.out.below).mono ?_; rintro e w2 ⟨rfl, hb2⟩; have HO2 := hide (HO.out.keep hb2); have q0 := HO2.out.s0; have q1 := HO2.out.s1; have q2 := HO2.out.s2))
  go_region_held3 (fun w' => w'.cell? ⟨w.heap.size, 0, none⟩ = some (.int .i64 a) ∧ w'.cell? ⟨w.heap.size, 1, none⟩ = some (.int .i64 b) ∧ w'.cell? ⟨w.heap.size, 2, none⟩ = some (.slice A n c)) (first | go_keep | exact keep3 hb4 (by assumption) | exact keep3 hb3 (by assumption))
    (first
      | (go_at_call 6; refine (H3.out _ (by first | exact Below.drew HO2.out.below | exact Below.trans (Below.drew HO2.out.below) (Below.mono hb4 HO2.out.below.size) | exact Below.drew (Below.trans (Below.drew HO2.out.below) (Below.mono hb4 HO2.out.below.size)))).mono ?_; rintro e w3 ⟨rfl, hb3⟩)
      | (go_at_call 7; refine (H4.out _ (by first | exact Below.drew HO2.out.below | exact Below.trans (Below.drew HO2.out.below) (Below.mono hb3 HO2.out.below.size) | exact Below.drew (Below.trans (Below.drew HO2.out.below) (Below.mono hb3 HO2.out.below.size)))).mono ?_; rintro e w4 ⟨rfl, hb4⟩))
  rename_i hS
  clear hS
  have hX : Below w.heap.size w w3 := Below.trans (Below.drew HO2.out.below) (Below.mono hb3 HO2.out.below.size)
  go_wp2_with fail
  go_ret
  exact ⟨rfl, hX.trans (hb4.mono hX.size)⟩

set_option maxRecDepth 100000 in
theorem img_arg {H : Type} {enc : TypeId × Value → H} {W : World} {r : Reach} {base : Nat} {v : Value} (hok : Value.okWide Tryd.prog W r base 24 v) (h : Rdg enc Tryd.prog W 24 v.cells.toList) :
    ∃ (a b : Int) (A : Option Addr) (n c : Nat) (l : List Int), v = .agg #[.int .i64 a, .int .i64 b, .slice A n c] ∧ l.length = n ∧ SlOk A n c 8 ∧ Rd W 1 icell A l := by
  obtain ⟨cs, rfl, _⟩ := okWide_struct Tryd.underlying24 hok
  obtain ⟨hl, hf⟩ := rdg_struct Tryd.underlying24 h
  obtain ⟨cl⟩ := cs
  have hl : cl.length = 3 := hl
  obtain ⟨c0, c1, c2, rfl⟩ : ∃ c0 c1 c2, cl = [c0, c1, c2] := by
    match cl, hl with
    | [c0, c1, c2], _ => exact ⟨c0, c1, c2, rfl⟩
  obtain ⟨a, e0, _⟩ := rdg_i64 Tryd.underlying3 (hf 0 _ rfl)
  obtain ⟨b, e1, _⟩ := rdg_i64 Tryd.underlying3 (hf 1 _ rfl)
  obtain ⟨A, n, c, l, e2, hn, hsl, hr, _⟩ := rdg_list icell In64 Tryd.underlying22 1 8 (by kernel_rfl) (by kernel_rfl) (by decide) (fun x _ hx => rdg_i64 Tryd.underlying3 hx) (hf 2 _ rfl)
  refine ⟨a, b, A, n, c, l, ?_, hn, hsl, hr⟩
  have e0 : c0 = .int .i64 a := List.singleton_inj.1 e0
  have e1 : c1 = .int .i64 b := List.singleton_inj.1 e1
  have e2 : c2 = .slice A n c := List.singleton_inj.1 e2
  rw [e0, e1, e2]

theorem own : ownKnob Tryd.prog.godebug = none := by kernel_rfl
theorem laidOut : laidOutB Tryd.prog = true := by kernel_rfl
/-- A world that holds the listed variables. -/
noncomputable def laidWorld (os : Os) : World := putVars (World.holding Tryd.prog os ⟨#[], #[], []⟩) [(1, Rows.laid_math_bits_deBruijn32tab), (2, Rows.laid_math_bits_deBruijn64tab), (0, Rows.laid_internal_strconv_uint64pow10)]
theorem laid_met (os : Os) : laidMet Tryd.prog Rows.imageWritesRow.laid ((laidWorld os).forCall (fun _ _ => 0) ⟨#[], #[.agg #[.int .i64 0, .int .i64 0, .slice none 0 0]], []⟩).memory :=
  laidMet_of_run' 12 (by kernel_rfl) (by kernel_rfl)
theorem reads (os : Os) {H : Type} (enc : TypeId × Value → H) : ∃ places, DataW.whole enc Tryd.prog ((laidWorld os).forCall (fun _ _ => 0) ⟨#[], #[.agg #[.int .i64 0, .int .i64 0, .slice none 0 0]], []⟩).memory Tryd.f3.params.toList Rows.imageWritesSpec.vars false (#[.agg #[.int .i64 0, .int .i64 0, .slice none 0 0]] : Array Value).toList 8 = some ([.agg [.lit (.int .i64 0), .lit (.int .i64 0), .nil]], [], places) :=
  ⟨[], by kernel_rfl⟩

set_option maxRecDepth 100000 in
theorem lifted (os : Os) (started : os.Started) (H : Type) (enc : TypeId × Value → H) (F : Stop.Interp) :
    ReturnsInHanded {} Tryd.checked os 3 .any ((OpenSpec.ofChange Rows.imageWritesSpec).preRow enc Tryd.prog Tryd.f3 Rows.imageWritesRow.domain false Rows.imageWritesRow.laid) (((OpenSpec.ofChange Rows.imageWritesSpec).at F).post enc Tryd.prog Tryd.f3 false true false false) := by
  obtain ⟨places, hx⟩ := reads os enc
  refine returnsInHanded_of_row (C := Tryd.checked) (s := (OpenSpec.ofChange Rows.imageWritesSpec)) own started (by kernel_rfl) Tryd.func3
    (witness_row_at (enc := enc) (C := Tryd.checked) false (laidWorld os) #[.agg #[.int .i64 0, .int .i64 0, .slice none 0 0]] (putVars_os _ _) (by kernel_rfl) (by kernel_rfl) (by kernel_rfl)
      (OpenSpec.preRow_of_cond 8 hx (by kernel_rfl) (fun k hk => by cases hk) (by kernel_rfl) (laid_met os))) ?_
  intro W base args ds gs before hval0 hW _ hcond hsz0 hL hsh _
  have hval : ∀ (j : Nat) t v, Tryd.f3.params[j]? = some t → args[j]? = some v → Value.okWide Tryd.prog W .any base t v := hval0
  have hW' := hW
  obtain ⟨p, q, hA0, hV, rfl, hfz, hnd⟩ := hW
  have hA : DataW.TrodAll enc Tryd.prog W 0 (fun _ => true) true Tryd.f3.params.toList args.toList ds p := hA0
  rw [Tryd.params3] at hA hval
  obtain ⟨v0, vs0, d0, ds0, p0, q0, hargs, rfl, rfl, h0, r0⟩ := trodAll_cons hA
  obtain ⟨rfl, rfl, rfl⟩ := trodAll_nil r0
  obtain rfl : args = #[v0] := by cases args; simp_all
  obtain ⟨rfl, rfl⟩ := trodVars_none (show DataW.TrodVars enc Tryd.prog W (fun _ => true) [] gs q from hV)
  simp only [List.append_nil] at hsz0
  obtain ⟨a0, b0, A0, n0, c0, l0, rfl, k1, k2, k3⟩ := img_arg (hval 0 24 v0 rfl rfl) (rdg_param hsz0 0 (t := 24) (by rw [Tryd.params3]; rfl) rfl h0)
  obtain ⟨ps, hps⟩ := laidMet_of_H (by kernel_rfl) hL
  have htab := tab_at (name := "math/bits.deBruijn64tab") (k := .u8) (zs := [0, 1, 56, 2, 57, 49, 28, 3, 61, 58, 42, 50, 38, 29, 17, 4, 62, 47, 59, 36, 45, 43, 51, 22, 53, 39, 33, 30, 24, 18, 12, 5, 63, 55, 48, 27, 60, 41, 37, 16, 46, 35, 44, 21, 52, 32, 23, 11, 54, 26, 40, 15, 34, 20, 31, 10, 25, 14, 19, 9, 13, 8, 7, 6]) (g := 2) (by kernel_rfl) (by kernel_rfl) Tryd.underlying49 Tryd.underlying5 (by kernel_rfl) (by kernel_rfl) _ 1 ps rfl hps
  have hc := htab.cell (g := 2) (by kernel_rfl) 15 (by decide)
  refine (walk a0 b0 A0 n0 c0 l0 W k1 k2 k3 hc).mono fun e W' ⟨he, hg⟩ => ?_
  subst he
  exact ⟨_, rfl, law_post (s := Rows.imageWritesSpec) laidOut (by kernel_rfl) (by kernel_rfl) Tryd.underlying4 rfl (fun ds h => by rw [Tryd.params3] at h; obtain ⟨_, rfl⟩ := ds_one h; rfl) hW' hg⟩

theorem over : Rows.imageWritesRow.holds Tryd.pinned (OpenSpec.ofChange Rows.imageWritesSpec) :=
  OpenClaim.holds_of_cond 3 Tryd.f3 rfl rfl rfl rfl rfl rfl rfl ⟨rfl, rfl, rfl, rfl, rfl⟩ rfl rfl rfl rfl rfl (by kernel_rfl) Tryd.func3 (by kernel_rfl)
    (of_decide_eq_true (by kernel_rfl)) (by unfold Func.isWrapper; first | (rw [if_pos (by decide +kernel)]; kernel_rfl) | (rw [if_neg (by decide +kernel)]; exact ⟨rfl, rfl⟩))
    (fun os started H enc _ F => by rw [OpenClaim.pre_eq_preRow]; exact lifted os started H enc F)

/-- No parameter wants a stand-in. -/
theorem plain (f : FuncId) (fn : Func) (hf : Tryd.pinned.checked.prog.funcNamed Rows.imageWritesRow.func = some f) (hfn : Tryd.pinned.checked.prog.funcs[f]? = some fn) :
    Rows.imageWritesCard.stood.looks = Tryd.pinned.checked.prog.looks [] ∧ ∀ (j : Nat) t, fn.params[j]? = some t → Tryd.pinned.checked.prog.wantsStandIn t = false := by
  obtain rfl : f = 3 := Option.some.inj ((show Tryd.prog.funcNamed Rows.imageWritesRow.func = some 3 by kernel_rfl).symm.trans hf) |>.symm
  obtain rfl : fn = Tryd.f3 := (Option.some.inj (Tryd.func3.symm.trans hfn)).symm
  refine ⟨by kernel_rfl, fun j t ht => ?_⟩
  have hall : Tryd.f3.params.toList.all (fun t => !Tryd.prog.wantsStandIn t) = true := by kernel_rfl
  have := List.all_eq_true.1 hall t (by rw [← Array.getElem?_toList] at ht; exact List.mem_of_getElem? ht)
  exact (show Tryd.prog.wantsStandIn t = false by simpa using this)

/-- The statement: the tied card. -/
theorem proved : Rows.ImageWritesCardSaid :=
  Claim7.holds_tied_plain_at .later [] _ _ _ _ over (fun _ h => by cases h) (by kernel_rfl) (fun _ h => by cases h) imageWrites_row_tie rfl ⟨rfl, rfl⟩ (by kernel_rfl) rfl plain (by kernel_rfl)
#print axioms proved
end Go.Proofs.YtkldjnopapipfaaDoor.imageWrites
