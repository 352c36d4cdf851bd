/-
  ListPages: for every input the law 'mastlaw2.ListPages' returns true, and each argument reads afterwards as before. No condition.
-/
import Derived.Test.YtbfldfnmamdofaaListPages
import Derived.Test.YtbfldfnmamdofaaEqParts
import Derived.Test.YtbfldfnmamdofaaL1
namespace Go.Proofs.Ytbfldfnmamdofaa.listPages
open Go.ChangeShapes Go.WideShapes Go.ChangeAt Go.RowKit

theorem pages_same (m s : Int) (k k' : Nat) (hs : 1 ≤ s) (h1 : 1 ≤ k) (h2 : m ≤ k * s) (h3 : k = 1 ∨ k * s < m + s) (h1' : 1 ≤ k') (h2' : m ≤ k' * s) (h3' : k' = 1 ∨ k' * s < m + s) : k = k' := by
  have aux : ∀ a b : Nat, 1 ≤ a → m ≤ a * s → (b = 1 ∨ b * s < m + s) → b ≤ a := by
    intro a b ha hm hb
    rcases hb with rfl | hb
    · exact ha
    · rcases Nat.lt_or_ge a b with hlt | hge
      · have : ((a + 1 : Nat) : Int) * s ≤ b * s := Int.mul_le_mul_of_nonneg_right (by omega) (by omega)
        have h := mul_next a s
        omega
      · exact hge
  have := aux k k' h1 h2 h3'
  have := aux k' k h1' h2' h3
  omega

theorem walk (m s : Int) (w : World) :
    Calls Try.prog 3 #[.int .i64 m, .int .i64 s] w fun e w' => e = .returned (.bool true) ∧ Below w.heap.size w w' := by
  by_cases h : m < 0 ∨ 2000 < m ∨ s < 1 ∨ 2000 < s
  · go_enter Try.func3, Try.ntmps3
    go_wp2_with fail
    refine (pager_no m s _ h).mono ?_
    rintro e w1 ⟨rfl, rfl⟩
    go_wp2_with fail
    refine (pagerOf_no m s _ h).mono ?_
    rintro e w1 ⟨rfl, rfl⟩
    go_wp2_with fail
    refine (equalParts (fun _ : Nat => [.int .i64 0, .int .i64 0, .int .i64 0]) (fun _ => ⟨_, _, _, rfl⟩) none none 0 0 0 [] w (by omega) rfl (Rd.nil _ _ _ _) (Rd.nil _ _ _ _)).mono ?_
    rintro e w1 ⟨rfl, hb⟩
    go_wp2
    go_ret
    exact ⟨rfl, hb⟩
  · go_enter Try.func3, Try.ntmps3
    go_wp2_with fail
    refine (pager_yes m s _ (by omega) (by omega) (by omega) (by omega)).mono ?_
    rintro e w1 ⟨A, c, k, rfl, hown, hb, h1, h2, h3, h4⟩
    have H := hide (And.intro h1 (And.intro h2 h3)); clear h1 h2 h3
    go_wp2_with fail
    refine (pagerOf_yes m s _ (by omega) (by omega) (by omega) (by omega)).mono ?_
    rintro e w2 ⟨A', c', k', rfl, hown', hb', h1', h2', h3', h4'⟩
    obtain rfl : k = k' := pages_same m s k k' (by omega) H.out.1 H.out.2.1 H.out.2.2 h1' h2' h3'
    clear h1' h2' h3' H
    have R := Rd.of_own (f := pcell m s) (l := List.range k) (fun _ => rfl) hown (by decide)
    have R' := Rd.of_own (f := pcell m s) (l := List.range k) (fun _ => rfl) hown' (by decide)
    go_wp2_with fail
    refine (equalParts (pcell m s) (fun _ => ⟨_, _, _, rfl⟩) A A' k c c' (List.range k) w2 (by omega) R.2 (R.1.keep hb') R'.1).mono ?_
    rintro e w3 ⟨rfl, hb''⟩
    go_wp2
    go_ret
    exact ⟨rfl, (hb.trans (hb'.mono hb.size)).trans (hb''.mono (Nat.le_trans hb.size hb'.size))⟩

theorem own : ownKnob Try.prog.godebug = none := by kernel_rfl
theorem laidOut : laidOutB Try.prog = true := by kernel_rfl

set_option maxRecDepth 100000 in
theorem lifted (os : Os) (started : os.Started) (H : Type) (enc : TypeId × Value → H) :
    ReturnsInHanded {} Try.checked os 3 .any (Rows.listPagesSpec.pre6 enc Try.prog Try.f3 Rows.listPagesRow.domain false) (Rows.listPagesSpec.post enc Try.prog Try.f3 false true false false) := by
  refine returnsInHanded_of_change (C := Try.checked) own started (by kernel_rfl) Try.func3
    (ChangeSpec.witness6 (enc := enc) (C := Try.checked) false ⟨#[], #[.int .i64 0, .int .i64 0], []⟩ 8 (by kernel_rfl) (by kernel_rfl) (by kernel_rfl) (by kernel_rfl)) ?_
  intro W base args ds gs before hval0 hW _ _
  have hval : ∀ (j : Nat) t v, Try.f3.params[j]? = some t → args[j]? = some v → Value.okWide Try.prog W .any base t v := hval0
  have hW' := hW
  obtain ⟨p, q, hA0, hV, rfl, hfz, hnd⟩ := hW
  have hA : DataW.TrodAll enc Try.prog W 0 (fun _ => true) true Try.f3.params.toList args.toList ds p := hA0
  rw [Try.params3] at hA hval
  obtain ⟨v0, vs0, d0, ds0, p0, q0, hargs, rfl, rfl, h0, r0⟩ := trodAll_cons hA
  obtain ⟨v1, vs1, d1, ds1, p1, q1, rfl, rfl, rfl, h1, r1⟩ := trodAll_cons r0
  obtain ⟨rfl, rfl, rfl⟩ := trodAll_nil r1
  obtain rfl : args = #[v0, v1] := by cases args; simp_all
  obtain ⟨a0, rfl, _, _, w0⟩ := open_int Try.underlying3 (hval 0 3 v0 rfl rfl) h0
  obtain ⟨a1, rfl, _, _, w1⟩ := open_int Try.underlying3 (hval 1 3 v1 rfl rfl) h1
  refine (walk a0 a1 W).mono fun e W' ⟨he, hg⟩ => ?_
  subst he
  exact ⟨_, rfl, law_post laidOut (by kernel_rfl) (by kernel_rfl) Try.underlying4 rfl (fun ds h => by rw [Try.params3] at h; obtain ⟨_, _, rfl⟩ := ds_two h; rfl) hW' hg⟩

theorem over : Rows.listPagesRow.holds Try.pinned (OpenSpec.ofChange Rows.listPagesSpec) :=
  OpenClaim.holds_of_wide 3 Try.f3 rfl rfl rfl rfl rfl rfl rfl ⟨rfl, rfl, rfl, rfl, rfl⟩ rfl rfl rfl rfl rfl (by kernel_rfl) Try.func3 (by kernel_rfl)
    (of_decide_eq_true (by kernel_rfl)) (by unfold Func.isWrapper; first | (rw [if_pos (by decide +kernel)]; kernel_rfl) | (rw [if_neg (by decide +kernel)]; exact ⟨rfl, rfl⟩))
    (fun os started H enc _ => lifted os started H enc)

/-- The statement. -/
theorem proved : Rows.ListPagesSaid :=
  over
#print axioms proved
end Go.Proofs.Ytbfldfnmamdofaa.listPages
