/-
  AssetFinds: for every input the law 'mastlaw2.AssetFinds' returns true, and each argument reads afterwards as before. No condition.
-/
import Derived.Test.YtbfldfnmamdofaaBundle
import Derived.Test.YtbfldfnmamdofaaL1
namespace Go.Proofs.Ytbfldfnmamdofaa.assetFinds
open Go.ChangeShapes Go.WideShapes Go.ChangeAt Go.RowKit Go.Joins
open Go.Proofs.Ytbfldfnmamdofaa.bundle

theorem walk (s : ByteArray) (A A' : Option Addr) (n c n' c' : Nat) (l : List Int) (at_ : Int) (w : World) (hat : In64 at_) (hs : s.size ≤ 9223372036854775807) (hn : n ≤ 9223372036854775807) (hn' : n' ≤ 9223372036854775807) (hl : l.length = n') (hr : Rd w 1 icell A' l) :
    Calls Try.prog 5 #[.agg #[.string s, .slice A n c, .slice A' n' c'], .int .i64 at_] w fun e w' => e = .returned (.bool true) ∧ Below w.heap.size w w' := by
  have hr1 := hr.keep ((Below.refl w.heap.size w).alloc (Nat.le_refl _) (.cells #[.string s, .slice A n c, .slice A' n' c'] 37))
  obtain ⟨x, y, z, hx⟩ : ∃ x y z, locate s.size n n' l at_ = (x, y, z) := ⟨_, _, _, rfl⟩
  have C1 := fun W h => locate_any s A A' n c n' c' l at_ W hat hs hn hn' hl h
  have C2 := fun W h => locateOf_any s A A' n c n' c' l at_ W hat hs hn hn' hl h
  rw [hx] at C1 C2
  have H1 := hide C1
  have H2 := hide C2
  clear hx C1 C2
  go_enter Try.func5, Try.ntmps5
  go_wp2_with fail
  refine (H1.out _ hr1).mono ?_
  rintro e w1 ⟨rfl, hb⟩
  have hb1 : Below w.heap.size w w1 := ((Below.refl _ _).alloc (Nat.le_refl _) (.cells #[.string s, .slice A n c, .slice A' n' c'] 37)).trans (hb.mono (by simp))
  have hbox : ∀ o, w1.cell? ⟨w.heap.size, o, none⟩ = (w.alloc (.cells #[.string s, .slice A n c, .slice A' n' c'] 37)).cell? ⟨w.heap.size, o, none⟩ := fun o => hb.cell (p := ⟨w.heap.size, o, none⟩) (by simp)
  have hc0 : w1.cell? ⟨w.heap.size, 0, none⟩ = some (.string s) := by rw [hbox]; simp [go_sem]
  have hc1 : w1.cell? ⟨w.heap.size, 1, none⟩ = some (.slice A n c) := by rw [hbox]; simp [go_sem]
  have hc2 : w1.cell? ⟨w.heap.size, 2, none⟩ = some (.slice A' n' c') := by rw [hbox]; simp [go_sem]
  have hr2 := hr.keep hb1
  have HB := hide (And.intro hb1 hr2)
  clear hbox hb hb1 hr2 hr1 hr
  go_wp2_with fail
  refine (H2.out _ HB.out.2).mono ?_
  rintro e w2 ⟨rfl, hb2⟩
  go_wp2
  go_ret
  exact ⟨rfl, HB.out.1.trans (hb2.mono HB.out.1.size)⟩

theorem cells_bundled : Try.prog.cellsOf 37 = 3 := by kernel_rfl
theorem cells_str : Try.prog.cellsOf 9 = 1 := by kernel_rfl
theorem cells_int : Try.prog.cellsOf 3 = 1 := by kernel_rfl

theorem own : ownKnob Try.prog.godebug = none := by kernel_rfl
theorem laidOut : laidOutB Try.prog = true := by kernel_rfl

set_option maxRecDepth 100000 in
theorem lifted (os : Os) (started : os.Started) (H : Type) (enc : TypeId × Value → H) :
    ReturnsInHanded {} Try.checked os 5 .any (Rows.assetFindsSpec.pre6 enc Try.prog Try.f5 Rows.assetFindsRow.domain false) (Rows.assetFindsSpec.post enc Try.prog Try.f5 false true false false) := by
  refine returnsInHanded_of_change (C := Try.checked) own started (by kernel_rfl) Try.func5
    (ChangeSpec.witness6 (enc := enc) (C := Try.checked) false ⟨#[], #[.agg #[.string ⟨#[]⟩, .slice none 0 0, .slice none 0 0], .int .i64 0], []⟩ 8 (by kernel_rfl) (by kernel_rfl) (by kernel_rfl) (by kernel_rfl)) ?_
  intro W base args ds gs before hval0 hW _ _
  have hval : ∀ (j : Nat) t v, Try.f5.params[j]? = some t → args[j]? = some v → Value.okWide Try.prog W .any base t v := hval0
  have hW' := hW
  obtain ⟨p, q, hA0, hV, rfl, hfz, hnd⟩ := hW
  have hA : DataW.TrodAll enc Try.prog W 0 (fun _ => true) true Try.f5.params.toList args.toList ds p := hA0
  rw [Try.params5] at hA hval
  obtain ⟨v0, vs0, d0, ds0, p0, q0, hargs, rfl, rfl, h0, r0⟩ := trodAll_cons hA
  obtain ⟨v1, vs1, d1, ds1, p1, q1, rfl, rfl, rfl, h1, r1⟩ := trodAll_cons r0
  obtain ⟨rfl, rfl, rfl⟩ := trodAll_nil r1
  obtain rfl : args = #[v0, v1] := by cases args; simp_all
  obtain ⟨c0, c1, c2, y0, y1, y2, m, rfl, _, _, g0, g1, g2⟩ := open_agg3 Try.underlying37 (by kernel_rfl) cells_bundled (hval 0 37 v0 rfl rfl) h0
  obtain ⟨s, hs0, hs⟩ := trod_str1 Try.underlying9 g0
  obtain ⟨A, n, c, ls, rfl, _, hsl, _, _⟩ := open_raw Try.underlying35 (by rw [cells_str]; decide) g1
  obtain ⟨A', n', c', l, rfl, hl, hsl', hr, _⟩ := open_intl Try.underlying30 Try.underlying3 cells_int g2
  injection hs0 with hs0
  subst hs0
  obtain ⟨a1, rfl, _, _, w1⟩ := open_int Try.underlying3 (hval 1 3 v1 rfl rfl) h1
  refine (walk s A A' n c n' c' l a1 W (in64_of w1) (by unfold maxLen at hs; omega) hsl.n_le hsl'.n_le hl hr).mono fun e W' ⟨he, hg⟩ => ?_
  subst he
  exact ⟨_, rfl, law_post laidOut (by kernel_rfl) (by kernel_rfl) Try.underlying4 rfl (fun ds h => by rw [Try.params5] at h; obtain ⟨_, _, rfl⟩ := ds_two h; rfl) hW' hg⟩

theorem over : Rows.assetFindsRow.holds Try.pinned (OpenSpec.ofChange Rows.assetFindsSpec) :=
  OpenClaim.holds_of_wide 5 Try.f5 rfl rfl rfl rfl rfl rfl rfl ⟨rfl, rfl, rfl, rfl, rfl⟩ rfl rfl rfl rfl rfl (by kernel_rfl) Try.func5 (by kernel_rfl)
    (of_decide_eq_true (by kernel_rfl)) (by unfold Func.isWrapper; first | (rw [if_pos (by decide +kernel)]; kernel_rfl) | (rw [if_neg (by decide +kernel)]; exact ⟨rfl, rfl⟩))
    (fun os started H enc _ => lifted os started H enc)

/-- The statement. -/
theorem proved : Rows.AssetFindsSaid :=
  over
#print axioms proved
end Go.Proofs.Ytbfldfnmamdofaa.assetFinds
