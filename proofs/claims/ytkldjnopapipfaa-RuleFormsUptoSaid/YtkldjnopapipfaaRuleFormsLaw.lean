/-
  RuleForms: for all rules and numbers of bulk at most 1048576, lang.Form answers as the reference's RuleFault and FormOf say.
-/
import Derived.Test.YtkldjnopapipfaaRule13
import Derived.Test.YtkldjnopapipfaaL1
import Derived.JoinedCond
import Derived.Deep.CondSized
namespace Go.Proofs.Ytkldjnopapipfaa.ruleForms
open Go.RowKit Go.WideShapes Go.ChangeShapes Go.ChangeAt
set_option linter.unusedVariables false

set_option maxHeartbeats 2000000 in
set_option maxRecDepth 100000 in
theorem walk (N : Nat) (A : Option Addr) (n c : Nat) (l : List Tst) (v : Int) (w : World) (hv : In64 v) (hn : l.length = n) (hsl : SlOk A n c 56) (hr : Rd w 5 Tst.cells A l) (hk : ∀ x ∈ l, TR w N x) (hc : ∀ x ∈ l, cntN N x ≤ 2000000) :
    Calls Try.prog 7 #[.agg #[.slice A n c], .int .i64 v] w fun e w' => e = .returned (.bool true) ∧ Below w.heap.size w w' := by
  have H1 := hide (fun (w' : World) (hb' : Below w.heap.size w w') => langForm_any N A n c l v w' hv hn hsl (hr.keep hb') (fun x hx => (hk x hx).keep hb') hc)
  have H2 := hide (fun (w' : World) (hb' : Below w.heap.size w w') => refFault_any N A n c l w' hn hsl (hr.keep hb') (fun x hx => (hk x hx).keep hb') hc)
  have H3 := hide (fun (h0 : fault N l = 0) (w' : World) (hb' : Below w.heap.size w w') => refFormOf_any N A n c l v w' hv hn hsl (hr.keep hb') (fun x hx => (hk x hx).keep hb') (fault_right h0))
  obtain ⟨i, hi⟩ : ∃ i : Nat, i = l.findIdx fun t => hldN N t (mag v) := ⟨_, rfl⟩
  have HR := hide (show formOf N l v = if fault N l = 0 then (i : Int) else 0 by rw [hi]; rfl)
  rw [← hi] at H3
  obtain ⟨R, hR⟩ : ∃ R, R = formOf N l v := ⟨_, rfl⟩
  rw [← hR] at HR H1
  obtain ⟨z, hz⟩ : ∃ z, z = fault N l := ⟨_, rfl⟩
  rw [← hz] at H1 H2 H3 HR
  clear hi hR hz hr hk hc hsl hn hv
  by_cases h0 : z = 0
  · subst h0
    obtain rfl : R = i := HR.out.trans (if_pos rfl)
    have G3 := hide (H3.out rfl)
    clear HR H3
    go_enter Try.func7, Try.ntmps7
    go_wp2_with (first
      | (go_at_call 20; refine (H1.out _ (Below.alloc (Below.refl _ _) (Nat.le_refl _) _)).mono ?_; rintro e w1 ⟨rfl, hb0⟩; have q0 : w1.cell? ⟨w.heap.size, 0, none⟩ = some (.slice A n c) := keept hb0 ((World.cell?_alloc_at _ _ _ _ rfl).trans rfl); have hb1 : Below w.heap.size w w1 := (Below.alloc (Below.refl _ _) (Nat.le_refl _) _).trans (hb0.mono (by simp)); clear hb0)
      | (go_at_call 21; refine (H2.out _ hb1).mono ?_; rintro e w2 ⟨rfl, hb2⟩; have q1 := keept hb2 q0; have hb3 : Below w.heap.size w w2 := hb1.trans (hb2.mono hb1.size); clear hb2)
      | (go_at_call 22; refine (G3.out _ hb3).mono ?_; rintro e w3 ⟨rfl, hb4⟩; have hb5 : Below w.heap.size w w3 := hb3.trans (hb4.mono hb3.size); clear hb4))
    go_ret
    exact ⟨rfl, hb5⟩
  · obtain rfl : R = 0 := HR.out.trans (if_neg h0)
    have h0' : (z != 0) = true := by simpa using h0
    have h0'' : (z == 0) = false := by simpa using h0
    clear HR H3 h0
    go_enter Try.func7, Try.ntmps7
    go_wp2_with (first
      | (go_at_call 20; refine (H1.out _ (Below.alloc (Below.refl _ _) (Nat.le_refl _) _)).mono ?_; rintro e w1 ⟨rfl, hb0⟩; have q0 : w1.cell? ⟨w.heap.size, 0, none⟩ = some (.slice A n c) := keept hb0 ((World.cell?_alloc_at _ _ _ _ rfl).trans rfl); have hb1 : Below w.heap.size w w1 := (Below.alloc (Below.refl _ _) (Nat.le_refl _) _).trans (hb0.mono (by simp)); clear hb0)
      | (go_at_call 21; refine (H2.out _ hb1).mono ?_; rintro e w2 ⟨rfl, hb2⟩; have q1 := keept hb2 q0; have hb3 : Below w.heap.size w w2 := hb1.trans (hb2.mono hb1.size); clear hb2))
    go_ret
    exact ⟨rfl, hb3⟩

theorem sz_param {H : Type} {P : Program} {ts : List TypeId} {ds : List (DataW H)} (hsz : (DataW.weightsEach P ts ds).all (· ≤ reachBytes) = true) (j : Nat) {t : TypeId} {d : DataW H} (ht : ts[j]? = some t) (hd : ds[j]? = some d) : Sz P t d :=
  fun n hn => of_decide_eq_true (List.all_eq_true.1 hsz _ (DataW.weights_mem_each ht hd n hn))

set_option maxRecDepth 100000 in
/-- An argument opens into a rule. -/
theorem rule_open {H : Type} {enc : TypeId × Value → H} {W : World} (fuel : Nat) (cs : List Value) (y : DataW H) (z : List MemPlace) (h : DataW.trod enc Try.prog W 0 (fun _ => true) true fuel 48 cs = some (y, z)) (hsz : Sz Try.prog 48 y) :
    ∃ (A : Option Addr) (n c : Nat) (l : List Tst), cs = [.slice A n c] ∧ l.length = n ∧ SlOk A n c 56 ∧ Rd W 5 Tst.cells A l ∧ (∀ x ∈ l, TR W fuel x) ∧ ∀ x ∈ l, cntN fuel x ≤ Rows.uptoBulk y := by
  obtain ⟨xs, n0, hfu, hx, hl, hxl, hfs⟩ := DataW.trod_struct Try.underlying48 h
  have hl : cs.length = 1 := hl
  obtain ⟨c0, rfl⟩ : ∃ c0, cs = [c0] := List.length_eq_one_iff.1 hl
  have h4 := hfs 0 _ rfl
  have hx4 : xs[0]? = some (xs[0]'(by rw [hxl]; decide)) := List.getElem?_eq_getElem (by rw [hxl]; decide)
  rw [hx4] at h4
  have hmem : (xs[0]'(by rw [hxl]; decide)).1 ∈ xs.map (·.1) := List.mem_map.2 ⟨_, List.getElem_mem _, rfl⟩
  have hsz4 : Sz Try.prog 46 (xs[0]'(by rw [hxl]; decide)).1 := fun k hk => hsz k (by
    injection hx with hx1 hx2
    rw [hx1]
    simp only [DataW.weights, Try.underlying48]
    refine sz_each (j := 0) (t := 46) (d := (xs[0]'(by rw [hxl]; decide)).1) rfl ?_ hk
    rw [List.getElem?_map, hx4]; rfl)
  obtain ⟨A, n, c, l5, e4, hn, hsl, hr, hel, hbulk⟩ := trod_elems Try.underlying46 (by decide) h4 hsz4
  obtain ⟨kids, hk1, hk2, hk3⟩ := tst_list (TR W fuel) (cntN fuel) l5 (fun x hx' => by
    obtain ⟨_, m', z', hm', ht', hs'⟩ := hel x hx'
    obtain ⟨v, hv, hvr, hvc⟩ := tst_open m' x.1 x.2 z' ht' hs'
    exact ⟨v, hv, hvr.mono (by omega), by rw [cnt_mono (by omega : m' ≤ fuel) hvr]; exact hvc⟩)
  rw [hk1] at hr
  have hlen : kids.length = n := by
    have := congrArg List.length hk1
    simpa [hn] using this.symm
  refine ⟨A, n, c, kids, e4, hlen, hsl, hr.of_map, hk2, fun x hx' => ?_⟩
  have hxc := kid_cnt (N := fuel) hx'
  have hb2 := bulk_mem hmem
  injection hx with hx1 _
  rw [hx1]
  simp only [Rows.uptoBulk]
  omega

set_option maxRecDepth 100000 in
theorem rule_arg {H : Type} {enc : TypeId × Value → H} {W : World} {r : Reach} {base : Nat} {v : Value} {d : DataW H} {p : List MemPlace} (hok : Value.okWide Try.prog W r base 48 v)
    (h : DataW.Trod enc Try.prog W 0 (fun _ => true) true 48 v d p) (hsz : Sz Try.prog 48 d) (hb : Rows.uptoBulk d ≤ 2000000) :
    ∃ (N : Nat) (A : Option Addr) (n c : Nat) (l : List Tst), v = .agg #[.slice A n c] ∧ l.length = n ∧ SlOk A n c 56 ∧ Rd W 5 Tst.cells A l ∧ (∀ x ∈ l, TR W N x) ∧ ∀ x ∈ l, cntN N x ≤ 2000000 := by
  obtain ⟨cs, rfl, _⟩ := okWide_struct Try.underlying48 hok
  obtain ⟨fu, hfu⟩ := h
  obtain ⟨A, n, c, l, e, h1, h2, h3, h4, h5⟩ := rule_open fu _ d p hfu hsz
  refine ⟨fu, A, n, c, l, ?_, h1, h2, h3, h4, fun x hx => Nat.le_trans (h5 x hx) hb⟩
  have e1 : cs.toList = [.slice A n c] := e
  obtain ⟨cl⟩ := cs
  simp at e1
  rw [e1]

theorem own : ownKnob Try.prog.godebug = none := by kernel_rfl
theorem laidOut : laidOutB Try.prog = true := by kernel_rfl

set_option maxRecDepth 100000 in
theorem lifted (os : Os) (started : os.Started) (H : Type) (enc : TypeId × Value → H) (F : Stop.Interp) :
    ReturnsInHanded {} Try.checked os 7 .any ((Rows.OpenSpec.upto Rows.ruleFormsSpec).pre6 enc Try.prog Try.f7 Rows.ruleFormsUptoRow.domain false) (((Rows.OpenSpec.upto Rows.ruleFormsSpec).at F).post enc Try.prog Try.f7 false true false false) := by
  refine returnsInHanded_of_cond_sized (C := Try.checked) (s := (Rows.OpenSpec.upto Rows.ruleFormsSpec)) (k := Rows.uptoSmall) rfl own started (by kernel_rfl) Try.func7
    (OpenSpec.witness (enc := enc) (C := Try.checked) (s := (Rows.OpenSpec.upto Rows.ruleFormsSpec)) (k := Rows.uptoSmall) rfl false ⟨#[], #[.agg #[.slice none 0 0], .int .i64 0], []⟩ 8 (by kernel_rfl) (by kernel_rfl) (by kernel_rfl)
      (x := ([.agg [.nil], .lit (.int .i64 0)], [], [])) (by kernel_rfl) rfl (by kernel_rfl)) ?_
  intro W base args ds gs before hval0 hW _ hk hsz0 _
  have hval : ∀ (j : Nat) t v, Try.f7.params[j]? = some t → args[j]? = some v → Value.okWide Try.prog W .any base t v := hval0
  have hW' := hW
  obtain ⟨p, q, hA0, hV, rfl, hfz, hnd⟩ := hW
  have hA : DataW.TrodAll enc Try.prog W 0 (fun _ => true) true Try.f7.params.toList args.toList ds p := hA0
  rw [Try.params7] at hA hval
  obtain ⟨v0, vs0, d0, ds0, p0, q0, hargs, rfl, rfl, h0, r0⟩ := trodAll_cons hA
  obtain ⟨v1, vs1, d1, ds1, p1, q1, rfl, rfl, rfl, h1, r1⟩ := trodAll_cons r0
  obtain ⟨rfl, rfl, rfl⟩ := trodAll_nil r1
  obtain rfl : args = #[v0, v1] := by cases args; simp_all
  obtain ⟨rfl, rfl⟩ := trodVars_none (show DataW.TrodVars enc Try.prog W (fun _ => true) [] gs q from hV)
  simp only [List.append_nil] at hk hsz0
  have hbulk : Rows.uptoBulkAll ([d0, d1] : List (DataW H)) ≤ 1048576 := of_decide_eq_true hk
  have hb0 : Rows.uptoBulk d0 ≤ 2000000 := by simp only [Rows.uptoBulkAll] at hbulk; omega
  obtain ⟨N0, A0, n0, c0, l0, rfl, k1, k2, k3, k4, k5⟩ := rule_arg (hval 0 48 v0 rfl rfl) h0 (sz_param hsz0 0 (t := 48) (by rw [Try.params7]; rfl) rfl) hb0
  obtain ⟨a1, rfl, _, _, w1⟩ := open_int Try.underlying3 (hval 1 3 v1 rfl rfl) h1
  refine (walk N0 A0 n0 c0 l0 a1 W (in64_of w1) k1 k2 k3 k4 k5).mono fun e W' ⟨he, hg⟩ => ?_
  subst he
  exact ⟨_, rfl, law_post (s := Rows.ruleFormsSpec) laidOut (by kernel_rfl) (by kernel_rfl) Try.underlying4 rfl (fun ds h => by rw [Try.params7] at h; obtain ⟨_, _, rfl⟩ := ds_two h; rfl) hW' hg⟩

theorem over : Rows.ruleFormsUptoRow.holds Try.pinned (Rows.OpenSpec.upto Rows.ruleFormsSpec) :=
  OpenClaim.holds_of_cond 7 Try.f7 rfl rfl rfl rfl rfl rfl rfl ⟨rfl, rfl, rfl, rfl, rfl⟩ rfl rfl rfl rfl rfl (by kernel_rfl) Try.func7 (by kernel_rfl)
    (of_decide_eq_true (by kernel_rfl)) (by unfold Func.isWrapper; first | (rw [if_pos (by decide +kernel)]; kernel_rfl) | (rw [if_neg (by decide +kernel)]; exact ⟨rfl, rfl⟩))
    (fun os started H enc _ F => lifted os started H enc F)

/-- The statement, for arguments of bulk at most 1048576. -/
theorem proved : Rows.RuleFormsUptoSaid :=
  over
#print axioms proved
end Go.Proofs.Ytkldjnopapipfaa.ruleForms
