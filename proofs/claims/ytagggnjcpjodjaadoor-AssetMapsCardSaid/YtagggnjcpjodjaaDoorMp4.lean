/-
  Rows of ints as arguments. The parts of a bundle as text: the argument; the table.
-/
import Derived.Test.YtagggnjcpjodjaaDoorP
import Derived.Test.YtagggnjcpjodjaaDoorQ1
import Derived.Test.YtagggnjcpjodjaaDoorMp3
import Derived.Lib.LaidTab
namespace Go.Proofs.YtagggnjcpjodjaaDoor
open Go.RowKit
set_option linter.unusedVariables false
namespace ints
section
variable (E : Env)
theorem ints_of : ∀ (l : List (List DD × Nat)), (∀ x ∈ l, (∃ k, In64 k ∧ x.1 = [.v (.int .i64 k)] ∧ x.2 = 0) ∧ x.1.length = 1) → ∃ vs : List Int, vs.length = l.length ∧ (∀ i, i < l.length → (l.getD i ([], 0)).1 = [i64 (vs.getD i 0)]) ∧ ∀ k ∈ vs, In64 k
  | [], _ => ⟨[], rfl, fun i hi => by simp at hi, fun k hk => by cases hk⟩
  | x :: l, h => by
    obtain ⟨vs, h2, h3, h4⟩ := ints_of l (fun y hy => h y (List.mem_cons_of_mem _ hy))
    obtain ⟨⟨k, h6, h7, _⟩, _⟩ := h x List.mem_cons_self
    refine ⟨k :: vs, by simp [h2], fun i hi => ?_, fun q hq => ?_⟩
    · match i, hi with
      | 0, _ => exact h7
      | i + 1, hi => exact h3 i (by simpa using hi)
    · rcases List.mem_cons.1 hq with rfl | hq
      · exact h6
      · exact h4 q hq
theorem opn_ints (N : Nat) : Opn (cx Tryd.prog mixed tyT_ok E) N 22 (fun ds n => ∃ d : DD, ds = [d] ∧ ∃ l : List Int, d = .sl 1 8 l.length (fun i _ => i64 (l.getD i 0)) ∧ l.length ≤ 100000000000000 ∧ ∀ k ∈ l, In64 k) := by
  refine Opn.le (Opn.mono (opn_slice (X := (cx Tryd.prog mixed tyT_ok E)) (N := N) Tryd.underlying22 (by kernel_rfl) (opn_int (X := (cx Tryd.prog mixed tyT_ok E)) Tryd.underlying3)) ?_) (Nat.le_succ _)
  rintro ds n ⟨l, hl, hb, rfl, rfl⟩
  obtain ⟨vs, h2, h3, h4⟩ := ints_of l hl
  have hb2 : l.length * 8 ≤ 140737488351232 := hb
  refine ⟨_, _, ⟨_, rfl, vs, rfl, by omega, h4⟩, Nat.le_refl _, ⟨?_, trivial⟩⟩
  refine Dle.sl (X := (cx Tryd.prog mixed tyT_ok E)) (show l.length = vs.length from h2.symm) (fun i j hi hj => Dle.of_eq ?_)
  have hj : j < 1 := hj
  obtain rfl : j = 0 := by omega
  rw [h3 i hi]
  rfl
end
end ints
end Go.Proofs.YtagggnjcpjodjaaDoor
namespace Go.Proofs.YtagggnjcpjodjaaDoor.mp32
open Go.RowKit
set_option linter.unusedVariables false
set_option linter.unusedSimpArgs false
theorem db_of_tab {w : World} (h : Lib.TabIs Tryd.prog w "math/bits.deBruijn64tab" .u8 [0, 1, 56, 2, 57, 49, 28, 3, 61, 58, 42, 50, 38, 29, 17, 4, 62, 47, 59, 36, 45, 43, 51, 22, 53, 39, 33, 30, 24, 18, 12, 5, 63, 55, 48, 27, 60, 41, 37, 16, 46, 35, 44, 21, 52, 32, 23, 11, 54, 26, 40, 15, 34, 20, 31, 10, 25, 14, 19, 9, 13, 8, 7, 6]) : DB w :=
  Lib.TabIs.cell h (g := 3) (by kernel_rfl) 31 (by decide)
section
variable (E : Env)
theorem opn_strs2 {N : Nat} {t e : TypeId} (ht : (cx Tryd.prog mixed tyT_ok E).P.underlying t = some (.slice e)) (he : (cx Tryd.prog mixed tyT_ok E).P.underlying e = some .string) (hk : ((cx Tryd.prog mixed tyT_ok E).T e).known = true) (h1 : ((cx Tryd.prog mixed tyT_ok E).T e).size = 1) (h2 : ((cx Tryd.prog mixed tyT_ok E).T e).bytes = 16) :
    Opn (cx Tryd.prog mixed tyT_ok E) N t (fun ds n => ∃ l : List ByteArray, ds = [encStrs l] ∧ l.length ≤ 100000000000000) := by
  refine Opn.mono (Opn.le (opn_slice ht hk (opn_str he (N := N))) (Nat.le_succ _)) ?_
  rintro ds n ⟨l, hl, hb, rfl, rfl⟩
  rw [h2] at hb
  have hex : ∃ l' : List ByteArray, l = l'.map fun s => ([.v (.string s)], s.size + 1) := by
    clear hb
    induction l with
    | nil => exact ⟨[], rfl⟩
    | cons x l ih =>
      obtain ⟨l', rfl⟩ := ih (fun y hy => hl y (List.mem_cons_of_mem _ hy))
      obtain ⟨⟨s, _, h3, h4⟩, _⟩ := hl x List.mem_cons_self
      exact ⟨s :: l', by rw [List.map_cons, ← h3, ← h4]⟩
  obtain ⟨l', rfl⟩ := hex
  refine ⟨_, _, ⟨l', rfl, by rw [List.length_map] at hb; omega⟩, Nat.le_refl _, ⟨?_, trivial⟩⟩
  rw [h1, h2]
  refine Dle.sl (by simp) (fun i j hi hj => Dle.of_eq ?_)
  obtain rfl : j = 0 := by omega
  have hi : i < l'.length := by simpa using hi
  simp [List.getD, hi]
theorem opn_ints2 (N : Nat) : Opn (cx Tryd.prog mixed tyT_ok E) N 22 (fun ds n => ∃ l : List Int, ds = [.sl 1 8 l.length (fun i _ => i64 (l.getD i 0))] ∧ l.length ≤ 100000000000000) := by
  refine Opn.mono (ints.opn_ints E N) ?_
  rintro ds n ⟨d, rfl, l, rfl, hl, _⟩
  exact ⟨_, _, ⟨l, rfl, hl⟩, Nat.le_refl _, ⟨Dle.refl _ _, trivial⟩⟩
theorem opn_bundled (N : Nat) : Opn (cx Tryd.prog mixed tyT_ok E) N 34 (fun ds n => ∃ (b : ByteArray) (ps : List ByteArray) (es : List Int), ds = (encB b ps es).cells ∧ ps.length ≤ 100000000000000 ∧ es.length ≤ 100000000000000) := by
  refine Opn.le (Opn.mono (opn_struct (X := (cx Tryd.prog mixed tyT_ok E)) (N := N) Tryd.underlying34 (by kernel_rfl) (by kernel_rfl) (by kernel_rfl) (Rs := [_, _, _])
    ⟨opn_str (X := (cx Tryd.prog mixed tyT_ok E)) Tryd.underlying9, opn_strs2 E Tryd.underlying32 Tryd.underlying9 (by kernel_rfl) (by kernel_rfl) (by kernel_rfl), opn_ints2 E N, trivial⟩) ?_) (Nat.le_succ _)
  rintro ds n ⟨_, _, _, _, ⟨b, hb, rfl, rfl⟩, ⟨_, _, _, _, ⟨ps, rfl, hp⟩, ⟨_, _, _, _, ⟨es, rfl, he⟩, ⟨rfl, rfl⟩, rfl, rfl⟩, rfl, rfl⟩, rfl, rfl⟩
  exact ⟨_, _, ⟨b, ps, es, rfl, hp, he⟩, Nat.le_refl _, ⟨Dle.refl _ _, Dle.refl _ _, Dle.refl _ _, trivial⟩⟩
end
end Go.Proofs.YtagggnjcpjodjaaDoor.mp32
