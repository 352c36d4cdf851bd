/-
  TermClouds: for every input the law 'mastlaw2.TermClouds' returns true, and each argument reads afterwards as before. No condition.
-/
import Derived.Test.YtbfldfnmamdofaaClouds2
import Derived.Test.YtbfldfnmamdofaaL1
namespace Go.Proofs.Ytbfldfnmamdofaa.clouds
open Go.ChangeShapes Go.WideShapes Go.ChangeAt Go.RowKit

theorem law_none (A : Option Addr) (n c : Nat) (s : Int) (w : World) (z : Int)
    (h1 : ∀ W, Calls Try.prog 26 #[.slice A n c, .int .i64 s] W fun e w' => e = .returned (.tuple #[.slice none 0 0, .int .i64 z]) ∧ W = w')
    (h2 : ∀ W, Calls Try.prog 27 #[.slice A n c, .int .i64 s] W fun e w' => e = .returned (.tuple #[.slice none 0 0, .int .i64 z]) ∧ W = w') :
    Calls Try.prog 8 #[.slice A n c, .int .i64 s] w fun e w' => e = .returned (.bool true) ∧ Below w.heap.size w w' := by
  have H1 := hide h1
  have H2 := hide h2
  clear h1 h2
  go_enter Try.func8, Try.ntmps8
  go_wp2_with fail
  refine (H1.out _).mono ?_
  rintro e w1 ⟨rfl, rfl⟩
  go_wp2_with fail
  refine (H2.out _).mono ?_
  rintro e w1 ⟨rfl, rfl⟩
  go_wp2_with fail
  refine (equalInts none none 0 0 0 0 [] [] w (by omega) (by omega) rfl rfl (Rd.nil _ _ _ _) (Rd.nil _ _ _ _)).mono ?_
  rintro e w1 ⟨rfl, d, rfl⟩
  go_wp2
  go_ret
  exact ⟨rfl, below_drewN (Below.refl _ _) _⟩

theorem walk (A : Option Addr) (n c : Nat) (l : List RT) (s : Int) (w : World) (hl : l.length = n) (hr : Rd w 3 RT.cells A l) (hok : ∀ t ∈ l, t.ok) :
    Calls Try.prog 8 #[.slice A n c, .int .i64 s] w fun e w' => e = .returned (.bool true) ∧ Below w.heap.size w w' := by
  by_cases hn : 2000 < n
  · exact law_none A n c s w 4 (fun W => cloud_large A n c s W hn) (fun W => cloudOf_large A n c s W hn)
  · by_cases hs : s < 1 ∨ 100 < s
    · exact law_none A n c s w 2 (fun W => cloud_range A n c s W (by omega) hs) (fun W => cloudOf_range A n c s W (by omega) hs)
    · have H1 := hide (fun W h => cloud_yes A n c l s W hl (by omega) (by omega) (by omega) h hok)
      have H2 := hide (fun W h => cloudOf_yes A n c l s W hl (by omega) (by omega) (by omega) h hok)
      have HR := hide hr
      have hl5 : l.length ≤ 2000 := by omega
      clear hr hok hl hn hs
      go_enter Try.func8, Try.ntmps8
      go_wp2_with fail
      refine (H1.out _ HR.out).mono ?_
      rintro e w1 ⟨A1, c1, lo, hi, rfl, hE, hown1, hb1⟩
      have HW1 := hide (And.intro hE (And.intro hown1 hb1))
      clear hE hown1 hb1
      go_wp2_with fail
      refine (H2.out _ (HR.out.keep HW1.out.2.2)).mono ?_
      rintro e w2 ⟨A2, c2, lo', hi', rfl, hE', hown2, hb2⟩
      obtain ⟨hE, hown1, hb1⟩ := HW1.out
      have hsame : (lens l).map (val lo hi s) = (lens l).map (val lo' hi' s) := by
        rcases hE with ⟨h0, _⟩ | ⟨h1, h2⟩
        · rw [h0]; rfl
        · rcases hE' with ⟨h0, _⟩ | ⟨h1', h2'⟩
          · rw [h0]; rfl
          · rw [isMin_eq h1 h1', isMax_eq h2 h2']
      rw [← hsame] at hown2
      have R1 := Rd.of_own (f := icell) (l := (lens l).map (val lo hi s)) icell_len (by rw [icells_map]; exact hown1) (by decide)
      have R2 := Rd.of_own (f := icell) (l := (lens l).map (val lo hi s)) icell_len (by rw [icells_map]; exact hown2) (by decide)
      have HQ := hide (And.intro R1 (And.intro R2 (And.intro hb1 hb2)))
      clear hE hE' hown1 hown2 hsame R1 R2 hb1 hb2
      go_wp2_with fail
      refine (equalInts A1 A2 l.length l.length c1 c2 _ _ w2 (by omega) (by omega) HQ.out.1.2 HQ.out.2.1.2 (HQ.out.1.1.keep HQ.out.2.2.2) HQ.out.2.1.1).mono ?_
      rintro e w3 ⟨rfl, d, rfl⟩
      rw [decide_eq_true rfl]
      go_wp2
      go_ret
      exact ⟨rfl, below_drewN (HQ.out.2.2.1.trans (HQ.out.2.2.2.mono HQ.out.2.2.1.size)) _⟩

theorem cells_term : Try.prog.cellsOf 95 = 3 := by kernel_rfl
theorem bytes_term : Try.prog.bytesOf 95 = 56 := by kernel_rfl
theorem cells_int : Try.prog.cellsOf 3 = 1 := by kernel_rfl
theorem bytes_int : Try.prog.bytesOf 3 = 8 := by kernel_rfl
theorem cells_str : Try.prog.cellsOf 9 = 1 := by kernel_rfl
theorem cells_ints : Try.prog.cellsOf 30 = 1 := by kernel_rfl

theorem rdg_term {H : Type} {enc : TypeId × Value → H} {W : World} {cs : List Value} (h : Rdg enc Try.prog W 95 cs) : ∃ t : RT, cs = t.cells ∧ t.ok := by
  obtain ⟨hl, hf⟩ := rdg_struct Try.underlying95 h
  rw [cells_term] at hl
  obtain ⟨a, b, c, rfl⟩ := len3 hl
  have h0 : Rdg enc Try.prog W 9 (([a, b, c].drop 0).take (Try.prog.cellsOf 9)) := hf 0 _ rfl
  have h1 : Rdg enc Try.prog W 9 (([a, b, c].drop 1).take (Try.prog.cellsOf 9)) := hf 1 _ rfl
  have h2 : Rdg enc Try.prog W 30 (([a, b, c].drop 2).take (Try.prog.cellsOf 30)) := hf 2 _ rfl
  rw [cells_str] at h0 h1
  rw [cells_ints] at h2
  obtain ⟨nm, e0, _⟩ := rdg_str Try.underlying9 h0
  obtain ⟨tt, e1, _⟩ := rdg_str Try.underlying9 h1
  obtain ⟨A, n, c', l, e2, hln, hs, _, _⟩ := rdg_ints Try.underlying30 Try.underlying3 cells_int bytes_int h2
  simp at e0 e1 e2
  subst e0 e1 e2
  exact ⟨⟨nm, tt, A, n, c', l⟩, rfl, hln, hs⟩

theorem own : ownKnob Try.prog.godebug = none := by kernel_rfl
theorem laidOut : laidOutB Try.prog = true := by kernel_rfl

set_option maxRecDepth 100000 in
theorem lifted (os : Os) (started : os.Started) (H : Type) (enc : TypeId × Value → H) :
    ReturnsInHanded {} Try.checked os 8 .any (Rows.termCloudsSpec.pre6 enc Try.prog Try.f8 Rows.termCloudsRow.domain false) (Rows.termCloudsSpec.post enc Try.prog Try.f8 false true false false) := by
  refine returnsInHanded_of_change_sized (C := Try.checked) own started (by kernel_rfl) Try.func8
    (ChangeSpec.witness6 (enc := enc) (C := Try.checked) false ⟨#[], #[.slice none 0 0, .int .i64 0], []⟩ 8 (by kernel_rfl) (by kernel_rfl) (by kernel_rfl) (by kernel_rfl)) ?_
  intro W base args ds gs before hval0 hW _ hsz0 _
  have hval : ∀ (j : Nat) t v, Try.f8.params[j]? = some t → args[j]? = some v → Value.okWide Try.prog W .any base t v := hval0
  have hW' := hW
  obtain ⟨p, q, hA0, hV, rfl, hfz, hnd⟩ := hW
  have hA : DataW.TrodAll enc Try.prog W 0 (fun _ => true) true Try.f8.params.toList args.toList ds p := hA0
  rw [Try.params8] at hA hval
  obtain ⟨v0, vs0, d0, ds0, p0, q0, hargs, rfl, rfl, h0, r0⟩ := trodAll_cons hA
  obtain ⟨v1, vs1, d1, ds1, p1, q1, rfl, rfl, rfl, h1, r1⟩ := trodAll_cons r0
  obtain ⟨rfl, rfl, rfl⟩ := trodAll_nil r1
  obtain rfl : args = #[v0, v1] := by cases args; simp_all
  obtain ⟨a0, n0, c0, rfl⟩ := okWide_slice Try.underlying50 (hval 0 50 v0 rfl rfl)
  have g0 := rdg_param hsz0 0 (t := 50) (by rw [Try.params8]; rfl) rfl h0
  obtain ⟨A, n, c, l, hcs, hl, hsl, hr, hok⟩ := rdg_list RT.cells RT.ok Try.underlying50 3 56 cells_term bytes_term (by decide) (fun x _ hx => rdg_term hx) g0
  simp [Value.cells] at hcs
  obtain ⟨rfl, rfl, rfl⟩ := hcs
  obtain ⟨a1, rfl, _, _, w1⟩ := open_int Try.underlying3 (hval 1 3 v1 rfl rfl) h1
  refine (walk a0 n0 c0 l a1 W hl hr hok).mono fun e W' ⟨he, hg⟩ => ?_
  subst he
  exact ⟨_, rfl, law_post laidOut (by kernel_rfl) (by kernel_rfl) Try.underlying4 rfl (fun ds h => by rw [Try.params8] at h; obtain ⟨_, _, rfl⟩ := ds_two h; rfl) hW' hg⟩

theorem over : Rows.termCloudsRow.holds Try.pinned (OpenSpec.ofChange Rows.termCloudsSpec) :=
  OpenClaim.holds_of_wide 8 Try.f8 rfl rfl rfl rfl rfl rfl rfl ⟨rfl, rfl, rfl, rfl, rfl⟩ rfl rfl rfl rfl rfl (by kernel_rfl) Try.func8 (by kernel_rfl)
    (of_decide_eq_true (by kernel_rfl)) (by unfold Func.isWrapper; first | (rw [if_pos (by decide +kernel)]; kernel_rfl) | (rw [if_neg (by decide +kernel)]; exact ⟨rfl, rfl⟩))
    (fun os started H enc _ => lifted os started H enc)

/-- The statement. -/
theorem proved : Rows.TermCloudsSaid :=
  over
#print axioms proved
end Go.Proofs.Ytbfldfnmamdofaa.clouds
