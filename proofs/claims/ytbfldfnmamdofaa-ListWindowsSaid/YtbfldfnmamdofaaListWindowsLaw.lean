/-
  ListWindows: for every input the law 'mastlaw2.ListWindows' returns true, and each argument reads afterwards as before. No condition.
-/
import Derived.Test.YtbfldfnmamdofaaListWindows
import Derived.Test.YtbfldfnmamdofaaL1
namespace Go.Proofs.Ytbfldfnmamdofaa.listWindows
open Go.ChangeShapes Go.WideShapes Go.ChangeAt Go.RowKit

theorem law_no (p m r : Int) (w : World) (h : Bad p m r) :
    Calls Try.prog 4 #[.int .i64 p, .int .i64 m, .int .i64 r] w fun e w' => e = .returned (.bool true) ∧ Below w.heap.size w w' := by
  have H := hide h
  unfold Bad at h
  go_enter Try.func4, Try.ntmps4
  go_wp2_with fail
  refine (window_no p m r _ H.out).mono ?_
  rintro e w1 ⟨rfl, rfl⟩
  go_wp2
  all_goals go_ret
  all_goals exact ⟨rfl, Below.refl _ _⟩

set_option maxHeartbeats 1000000 in
set_option maxRecDepth 100000 in
theorem law_yes (p m r : Int) (w : World) (hp0 : 1 ≤ p) (hp1 : p ≤ 2000) (hm0 : 1 ≤ m) (hm1 : m ≤ p) (hr0 : 0 ≤ r) (hr1 : r ≤ 2000) :
    Calls Try.prog 4 #[.int .i64 p, .int .i64 m, .int .i64 r] w fun e w' => e = .returned (.bool true) ∧ Below w.heap.size w w' := by
  go_enter Try.func4, Try.ntmps4
  go_wp2_with fail
  refine (window_yes p m r _ hp0 hp1 hm0 hm1 hr0 hr1).mono ?_
  rintro e w1 ⟨A0, c0, n0, l0, rfl, hown0, hl0', hn0, hb0⟩
  have HW := hide (And.intro hown0 (And.intro hl0' hb0)); clear hown0 hl0' hb0
  go_wp2_with fail
  go_loopw [9, 10, 11] (WinRel p m r w1) (fun _ _ v10 _ => 8000 - (intOf v10).toNat)
  case atStart => exact rel_zero p m r w1 (by omega)
  case round =>
    obtain ⟨k, A, c, l, last, n, rfl, rfl, rfl, hkp, hst, hnk, hl0, hl1, hown, hb⟩ := hrel
    have HS := hide hst; clear hst
    by_cases hend : (k : Int) + 1 ≤ p
    · by_cases h1 : k = 0
      · subst h1
        have hg : ¬ last + 1 < ((0 : Nat) : Int) + 1 := by omega
        go_wp2_with (at_builtin; refine app1 intTy _ w1 rfl _ _ rfl w1.heap.size rfl (by assumption) (by assumption) (Below.size (by assumption)) _ rfl rfl rfl (by omega) ?_; intro g c' w2 hown1 hb1 _ _)
        exact ⟨rel_near (by omega) HS.out (by unfold Skips; simp) hg hnk hown1 hb1 (by simp) (by simp), by simp [intOf]⟩
      · have e1 : ((k : Int) + 1 != 1) = true := by rw [bne_iff_ne]; omega
        have hk1 : 1 ≤ (k : Int) := by omega
        clear h1
        by_cases h2 : p ≤ (k : Int) + 1
        · have e2 : ((k : Int) + 1 != p) = false := by rw [bne_eq_false_iff_eq]; omega
          by_cases hg : last + 1 < (k : Int) + 1
          · go_wp2_with (at_builtin; refine app1 intTy _ w1 rfl _ _ rfl w1.heap.size rfl (by assumption) (by assumption) (Below.size (by assumption)) _ rfl rfl rfl (by omega) ?_; intro g c' w2 hown1 hb1 _ _)
            exact ⟨rel_far hend HS.out (by unfold Skips; omega) hg hnk hown1 hb1 (by omega) (by omega), by simp [intOf]; omega⟩
          · go_wp2_with (at_builtin; refine app1 intTy _ w1 rfl _ _ rfl w1.heap.size rfl (by assumption) (by assumption) (Below.size (by assumption)) _ rfl rfl rfl (by omega) ?_; intro g c' w2 hown1 hb1 _ _)
            exact ⟨rel_near hend HS.out (by unfold Skips; omega) hg hnk hown1 hb1 (by omega) (by omega), by simp [intOf]; omega⟩
        · have e2 : ((k : Int) + 1 != p) = true := by rw [bne_iff_ne]; omega
          by_cases h3 : (k : Int) + 1 < m - r
          · go_wp2
            exact ⟨rel_skip hend HS.out (by unfold Skips; omega) hnk hl0 hl1 hown hb (by omega), by simp [intOf]; omega⟩
          · by_cases h4 : m + r < (k : Int) + 1
            · go_wp2
              exact ⟨rel_skip hend HS.out (by unfold Skips; omega) hnk hl0 hl1 hown hb (by omega), by simp [intOf]; omega⟩
            · by_cases hg : last + 1 < (k : Int) + 1
              · go_wp2_with (at_builtin; refine app1 intTy _ w1 rfl _ _ rfl w1.heap.size rfl (by assumption) (by assumption) (Below.size (by assumption)) _ rfl rfl rfl (by omega) ?_; intro g c' w2 hown1 hb1 _ _)
                exact ⟨rel_far hend HS.out (by unfold Skips; omega) hg hnk hown1 hb1 (by omega) (by omega), by simp [intOf]; omega⟩
              · go_wp2_with (at_builtin; refine app1 intTy _ w1 rfl _ _ rfl w1.heap.size rfl (by assumption) (by assumption) (Below.size (by assumption)) _ rfl rfl rfl (by omega) ?_; intro g c' w2 hown1 hb1 _ _)
                exact ⟨rel_near hend HS.out (by unfold Skips; omega) hg hnk hown1 hb1 (by omega) (by omega), by simp [intOf]; omega⟩
    · obtain ⟨hown0, hl0', hb0⟩ := HW.out
      have hpk : p.toNat = k := by omega
      have hll : l0 = l := by rw [hl0', hpk, HS.out]
      have R0 := Rd.of_own (f := icell) (l := l0) icell_len (by rw [icells_map]; exact hown0) (by decide)
      have R := Rd.of_own (f := icell) (l := l) icell_len (by rw [icells_map]; exact hown) (by decide)
      have HR := hide (And.intro hll (And.intro hb0 (And.intro R0 R)))
      clear hll hb0 hl0' hown0 hpk R0 R
      go_wp2_with fail
      refine (equalInts A0 A n0 n c0 c l0 l wr (by omega) (by omega) HR.out.2.2.1.2 HR.out.2.2.2.2 (HR.out.2.2.1.1.keep hb) HR.out.2.2.2.1).mono ?_
      rintro e w3 ⟨rfl, d, rfl⟩
      go_wp2
      go_ret
      obtain ⟨hll, hb0, _⟩ := HR.out
      exact ⟨by rw [decide_eq_true hll]; rfl, below_drewN (hb0.trans (hb.mono hb0.size)) _⟩

theorem walk (p m r : Int) (w : World) :
    Calls Try.prog 4 #[.int .i64 p, .int .i64 m, .int .i64 r] w fun e w' => e = .returned (.bool true) ∧ Below w.heap.size w w' := by
  by_cases h : Bad p m r
  · exact law_no p m r w h
  · unfold Bad at h
    exact law_yes p m r w (by omega) (by omega) (by omega) (by omega) (by omega) (by omega)

theorem own : ownKnob Try.prog.godebug = none := by kernel_rfl
theorem laidOut : laidOutB Try.prog = true := by kernel_rfl

set_option maxRecDepth 100000 in
theorem lifted (os : Os) (started : os.Started) (H : Type) (enc : TypeId × Value → H) :
    ReturnsInHanded {} Try.checked os 4 .any (Rows.listWindowsSpec.pre6 enc Try.prog Try.f4 Rows.listWindowsRow.domain false) (Rows.listWindowsSpec.post enc Try.prog Try.f4 false true false false) := by
  refine returnsInHanded_of_change (C := Try.checked) own started (by kernel_rfl) Try.func4
    (ChangeSpec.witness6 (enc := enc) (C := Try.checked) false ⟨#[], #[.int .i64 0, .int .i64 0, .int .i64 0], []⟩ 8 (by kernel_rfl) (by kernel_rfl) (by kernel_rfl) (by kernel_rfl)) ?_
  intro W base args ds gs before hval0 hW _ _
  have hval : ∀ (j : Nat) t v, Try.f4.params[j]? = some t → args[j]? = some v → Value.okWide Try.prog W .any base t v := hval0
  have hW' := hW
  obtain ⟨p, q, hA0, hV, rfl, hfz, hnd⟩ := hW
  have hA : DataW.TrodAll enc Try.prog W 0 (fun _ => true) true Try.f4.params.toList args.toList ds p := hA0
  rw [Try.params4] at hA hval
  obtain ⟨v0, vs0, d0, ds0, p0, q0, hargs, rfl, rfl, h0, r0⟩ := trodAll_cons hA
  obtain ⟨v1, vs1, d1, ds1, p1, q1, rfl, rfl, rfl, h1, r1⟩ := trodAll_cons r0
  obtain ⟨v2, vs2, d2, ds2, p2, q2, rfl, rfl, rfl, h2, r2⟩ := trodAll_cons r1
  obtain ⟨rfl, rfl, rfl⟩ := trodAll_nil r2
  obtain rfl : args = #[v0, v1, v2] := by cases args; simp_all
  obtain ⟨a0, rfl, _, _, w0⟩ := open_int Try.underlying3 (hval 0 3 v0 rfl rfl) h0
  obtain ⟨a1, rfl, _, _, w1⟩ := open_int Try.underlying3 (hval 1 3 v1 rfl rfl) h1
  obtain ⟨a2, rfl, _, _, w2⟩ := open_int Try.underlying3 (hval 2 3 v2 rfl rfl) h2
  refine (walk a0 a1 a2 W).mono fun e W' ⟨he, hg⟩ => ?_
  subst he
  exact ⟨_, rfl, law_post laidOut (by kernel_rfl) (by kernel_rfl) Try.underlying4 rfl (fun ds h => by rw [Try.params4] at h; obtain ⟨_, _, _, rfl⟩ := ds_three h; rfl) hW' hg⟩

theorem over : Rows.listWindowsRow.holds Try.pinned (OpenSpec.ofChange Rows.listWindowsSpec) :=
  OpenClaim.holds_of_wide 4 Try.f4 rfl rfl rfl rfl rfl rfl rfl ⟨rfl, rfl, rfl, rfl, rfl⟩ rfl rfl rfl rfl rfl (by kernel_rfl) Try.func4 (by kernel_rfl)
    (of_decide_eq_true (by kernel_rfl)) (by unfold Func.isWrapper; first | (rw [if_pos (by decide +kernel)]; kernel_rfl) | (rw [if_neg (by decide +kernel)]; exact ⟨rfl, rfl⟩))
    (fun os started H enc _ => lifted os started H enc)

/-- The statement. -/
theorem proved : Rows.ListWindowsSaid :=
  over
#print axioms proved
end Go.Proofs.Ytbfldfnmamdofaa.listWindows
