/-
  slices.Delete of one element, in place: rows of values, rows of strings. (Turned from the library's own walk at rows of one-cell elements.)
-/
import Derived.Test.YtjbgafbijamckaaGreatDoorQ0
import Derived.Shelf.RegionOpenPlain
import Derived.WalkKit
import Derived.Deep.RegionLaw
import Derived.Lib.Walk
import Derived.Lib.SliceRun
import Derived.Lib.LazyBuf
namespace Go.Proofs.YtjbgafbijamckaaGreatDoor
open Go.RowKit Go.Lib
set_option linter.unusedVariables false
set_option linter.unusedSimpArgs false
namespace dl
/-- 'clear(s)', s a slice of n > 0 elements. -/
theorem run_clear_cells {P : Program} (w : World) (t e ty : TypeId) (z : Value) (ht : P.underlying t = some (.slice e)) (hv : ∀ w, (zeroValue e).run P w = .ok z w) (zs : List Value) (n c b o : Nat) (hn : 0 < n) (hz : (Builtin.zeroCells z.cells n).toList = zs) (h1 : ∀ v ∈ zs, v.oneCell' = true)
    (hc : ∀ j, j < zs.length → (w.cell? ⟨b, o + j, none⟩).isSome = true) (hf : ∀ j, j < zs.length → w.frozen? ⟨b, o + j, none⟩ = false) :
    (Builtin.clear_ #[t] ty #[.slice (some ⟨b, o, none⟩) n c]).run P w = .ok (.tuple #[]) (w.setCells b o zs) := by
  have hst := run_storeCells_cells (P := P) b o zs 0 w (by simpa using hc) (by simpa using hf) h1
  simp only [Nat.add_zero] at hst
  obtain ⟨m, rfl⟩ : ∃ m, n = m + 1 := ⟨n - 1, by omega⟩
  simp [Builtin.clear_, run_underlying ht, hv, hz, hst]
theorem row_cell {w : World} {b n k : Nat} {e : TypeId} {g : Nat → Value} (h : w.rowIs b e n g) (hk : k < n) : w.cell? ⟨b, k, none⟩ = some (g k) ∧ w.frozen? ⟨b, k, none⟩ = false := by
  obtain ⟨c, h1, h2, h3⟩ := h
  refine ⟨?_, ?_⟩
  · simp [World.cell?, h1, h3 k hk]
  · simp [World.frozen?, h1]
theorem row_drew {w : World} {b n : Nat} {e : TypeId} {g : Nat → Value} (h : w.rowIs b e n g) : w.drew.rowIs b e n g := h
def zV : List Value := [.int .i64 0, .bool false, .int .i64 0, .string ⟨#[]⟩, .slice none 0 0, .slice none 0 0]
def zS : List Value := [.string ⟨#[]⟩]
def cut (s j n : Nat) (g : Nat → Value) : List Value := (List.range ((n - j) * s)).map fun t => g (j * s + t)
set_option maxHeartbeats 4000000 in
set_option maxRecDepth 1000000 in
theorem delV (b n c i j : Nat) (hj1 : j = i + 1) (g : Nat → Value) (w : World) (hR : w.rowIs b 25 (c * 6) g) (h1 : ∀ k, k < n * 6 → (g k).oneCell' = true) (hi : j ≤ n) (hn : n ≤ c) (hm : c ≤ 9223372036854775807) :
    Calls Tryz.prog 55 #[.slice (some ⟨b, 0, none⟩) n c, .int .i64 i, .int .i64 j] w fun e w' => e = .returned (.slice (some ⟨b, 0, none⟩) (n - 1) c) ∧ w' = (w.drew.setCells b (i * 6) (cut 6 j n g)).setCells b ((n - 1) * 6) zV := by
  obtain ⟨i0, hi0, hi1, hi2⟩ : ∃ i0, Tryz.prog.info? 25 = some i0 ∧ i0.size = 6 ∧ True := ⟨_, rfl, by kernel_rfl, trivial⟩
  obtain ⟨news, hnews⟩ : ∃ news, news = cut 6 j n g := ⟨_, rfl⟩
  have hlen : news.length = (n - j) * 6 := by rw [hnews]; simp [cut]
  have hget : ∀ t, t < (n - j) * 6 → news[t]? = some (g (j * 6 + t)) := by
    intro t ht
    rw [hnews]
    unfold cut
    rw [List.getElem?_map, List.getElem?_range (by omega)]
    rfl
  obtain ⟨A, hA, hsrc⟩ : ∃ A : Addr, (if c = j then some (⟨b, 0, none⟩ : Addr) else some ⟨b, j * 6, none⟩) = some A ∧ Hid (∀ t u, news[t]? = some u → w.drew.cell? (A.add t) = some u) := by
    by_cases h : c = j
    · refine ⟨⟨b, 0, none⟩, by simp [h], fun t u hu => ?_⟩
      have h0 : news.length = 0 := by rw [hlen]; omega
      rw [List.length_eq_zero_iff.1 h0] at hu
      simp at hu
    · refine ⟨⟨b, j * 6, none⟩, by simp [h], fun t u hu => ?_⟩
      have ht : t < (n - j) * 6 := by
        have := (List.getElem?_eq_some_iff.1 hu).1
        rwa [hlen] at this
      rw [hget t ht] at hu
      rw [Addr.add_lit]
      refine Eq.trans ?_ hu
      have h5 := (row_cell hR (k := j * 6 + t) (by omega)).1
      simpa using h5
  have s1 : Hid (news.length = (n - j) * 6) := hlen
  have s2 : Hid (∀ u ∈ news, u.oneCell' = true) := by
    intro u hu
    obtain ⟨t, ht, rfl⟩ := List.getElem_of_mem hu
    have h2 := hget t (by omega)
    rw [List.getElem?_eq_getElem ht] at h2
    injection h2 with h2
    rw [h2]
    exact h1 _ (by omega)
  have s3 : Hid (∀ t, t < news.length → (w.drew.cell? ⟨b, 0 + i * 6 + t, none⟩).isSome = true ∧ w.drew.frozen? ⟨b, 0 + i * 6 + t, none⟩ = false) := by
    intro t ht
    rw [hlen] at ht
    obtain ⟨q1, q2⟩ := row_cell hR (k := 0 + i * 6 + t) (by omega)
    exact ⟨by show (w.cell? _).isSome = true; rw [q1]; rfl, q2⟩
  obtain ⟨W1, hW1⟩ : ∃ W1, W1 = w.drew.setCells b (0 + i * 6) news := ⟨_, rfl⟩
  obtain ⟨g1, hR1⟩ : ∃ g1, W1.rowIs b 25 (c * 6) g1 := ⟨_, by rw [hW1]; exact rowIs_setCells news _ _ _ (row_drew hR)⟩
  have hcl : ∀ ty, (Builtin.clear_ #[22] ty #[.slice (some ⟨b, (i + (n - j)) * 6, none⟩) (n - (i + (n - j))) (c - (i + (n - j)))]).run Tryz.prog W1 = .ok (.tuple #[]) (W1.setCells b ((i + (n - j)) * 6) zV) :=
    fun ty => run_clear_cells W1 _ 25 ty (.agg #[.int .i64 0, .bool false, .int .i64 0, .string ⟨#[]⟩, .slice none 0 0, .slice none 0 0]) Tryz.underlying22 (fun w => by kernel_rfl) zV _ _ _ _ (by omega) (by rw [show n - (i + (n - j)) = 1 by omega]; kernel_rfl) (by unfold zV; simp [Value.oneCell'])
      (fun j hj => by
        have hj : j < 6 := hj
        rw [(row_cell hR1 (by omega)).1]; rfl)
      (fun j hj => by
        have hj : j < 6 := hj
        exact (row_cell hR1 (by omega)).2)
  have hW : Hid (W1 = w.drew.setCells b (0 + i * 6) news) := hW1
  have hN : Hid (news = cut 6 j n g) := hnews
  have hic : i ≤ c := by omega
  have hjc : j ≤ c := by omega
  have hij : i ≤ j := by omega
  have hlt : i < j := by omega
  have hne : ¬ i = j := by omega
  have mx := mixed
  have H1 := hide hj1
  clear hj1
  have t31 := Tryz.underlying22
  clear hW1 hget hnews hlen hR1 h1 hR
  go_enter Tryz.func55, Tryz.ntmps55
  go_wp2_with fail
  go_region_law_o (refine step_append_room rfl (.tmp 22) (.tmp 25) 22 rfl 25 i0 6 t31 hi0 hi1 b 0 i c (by simp [Act.eval, Act.put]) A (n - j) (c - j) news (by simp [Act.eval, Act.put]) s1.out hsrc.out s2.out (by omega) s3.out ?_; rw [← hW.out])
  go_wp2
  go_ret
  have hj1 := H1.out
  refine ⟨by rw [show n - 1 = i + (n - j) by omega]; rfl, ?_⟩
  rw [hW.out, Nat.zero_add, hN.out, show i + (n - j) = n - 1 by omega]
set_option maxHeartbeats 4000000 in
set_option maxRecDepth 1000000 in
theorem delS (b n c i j : Nat) (hj1 : j = i + 1) (g : Nat → Value) (w : World) (hR : w.rowIs b 9 (c * 1) g) (h1 : ∀ k, k < n * 1 → (g k).oneCell' = true) (hi : j ≤ n) (hn : n ≤ c) (hm : c ≤ 9223372036854775807) :
    Calls Tryz.prog 56 #[.slice (some ⟨b, 0, none⟩) n c, .int .i64 i, .int .i64 j] w fun e w' => e = .returned (.slice (some ⟨b, 0, none⟩) (n - 1) c) ∧ w' = (w.drew.setCells b (i * 1) (cut 1 j n g)).setCells b ((n - 1) * 1) zS := by
  obtain ⟨i0, hi0, hi1, hi2⟩ : ∃ i0, Tryz.prog.info? 9 = some i0 ∧ i0.size = 1 ∧ True := ⟨_, rfl, by kernel_rfl, trivial⟩
  obtain ⟨news, hnews⟩ : ∃ news, news = cut 1 j n g := ⟨_, rfl⟩
  have hlen : news.length = (n - j) * 1 := by rw [hnews]; simp [cut]
  have hget : ∀ t, t < (n - j) * 1 → news[t]? = some (g (j * 1 + t)) := by
    intro t ht
    rw [hnews]
    unfold cut
    rw [List.getElem?_map, List.getElem?_range (by omega)]
    rfl
  obtain ⟨A, hA, hsrc⟩ : ∃ A : Addr, (if c = j then some (⟨b, 0, none⟩ : Addr) else some ⟨b, j, none⟩) = some A ∧ Hid (∀ t u, news[t]? = some u → w.drew.cell? (A.add t) = some u) := by
    by_cases h : c = j
    · refine ⟨⟨b, 0, none⟩, by simp [h], fun t u hu => ?_⟩
      have h0 : news.length = 0 := by rw [hlen]; omega
      rw [List.length_eq_zero_iff.1 h0] at hu
      simp at hu
    · refine ⟨⟨b, j, none⟩, by simp [h], fun t u hu => ?_⟩
      have ht : t < (n - j) * 1 := by
        have := (List.getElem?_eq_some_iff.1 hu).1
        rwa [hlen] at this
      rw [hget t ht] at hu
      rw [Addr.add_lit]
      refine Eq.trans ?_ hu
      have h5 := (row_cell hR (k := j * 1 + t) (by omega)).1
      simpa using h5
  have s1 : Hid (news.length = (n - j) * 1) := hlen
  have s2 : Hid (∀ u ∈ news, u.oneCell' = true) := by
    intro u hu
    obtain ⟨t, ht, rfl⟩ := List.getElem_of_mem hu
    have h2 := hget t (by omega)
    rw [List.getElem?_eq_getElem ht] at h2
    injection h2 with h2
    rw [h2]
    exact h1 _ (by omega)
  have s3 : Hid (∀ t, t < news.length → (w.drew.cell? ⟨b, 0 + i * 1 + t, none⟩).isSome = true ∧ w.drew.frozen? ⟨b, 0 + i * 1 + t, none⟩ = false) := by
    intro t ht
    rw [hlen] at ht
    obtain ⟨q1, q2⟩ := row_cell hR (k := 0 + i * 1 + t) (by omega)
    exact ⟨by show (w.cell? _).isSome = true; rw [q1]; rfl, q2⟩
  obtain ⟨W1, hW1⟩ : ∃ W1, W1 = w.drew.setCells b (0 + i * 1) news := ⟨_, rfl⟩
  obtain ⟨g1, hR1⟩ : ∃ g1, W1.rowIs b 9 (c * 1) g1 := ⟨_, by rw [hW1]; exact rowIs_setCells news _ _ _ (row_drew hR)⟩
  have hcl : ∀ ty, (Builtin.clear_ #[23] ty #[.slice (some ⟨b, (i + (n - j)), none⟩) (n - (i + (n - j))) (c - (i + (n - j)))]).run Tryz.prog W1 = .ok (.tuple #[]) (W1.setCells b ((i + (n - j))) zS) :=
    fun ty => run_clear_cells W1 _ 9 ty (.string ⟨#[]⟩) Tryz.underlying23 (fun w => by kernel_rfl) zS _ _ _ _ (by omega) (by rw [show n - (i + (n - j)) = 1 by omega]; kernel_rfl) (by unfold zS; simp [Value.oneCell'])
      (fun j hj => by
        have hj : j < 1 := hj
        rw [(row_cell hR1 (by omega)).1]; rfl)
      (fun j hj => by
        have hj : j < 1 := hj
        exact (row_cell hR1 (by omega)).2)
  have hW : Hid (W1 = w.drew.setCells b (0 + i * 1) news) := hW1
  have hN : Hid (news = cut 1 j n g) := hnews
  have hic : i ≤ c := by omega
  have hjc : j ≤ c := by omega
  have hij : i ≤ j := by omega
  have hlt : i < j := by omega
  have hne : ¬ i = j := by omega
  have mx := mixed
  have H1 := hide hj1
  clear hj1
  have t31 := Tryz.underlying23
  clear hW1 hget hnews hlen hR1 h1 hR
  go_enter Tryz.func56, Tryz.ntmps56
  go_wp2_with fail
  go_region_law_o (refine step_append_room rfl (.tmp 22) (.tmp 25) 23 rfl 9 i0 1 t31 hi0 hi1 b 0 i c (by simp [Act.eval, Act.put]) A (n - j) (c - j) news (by simp [Act.eval, Act.put]) s1.out hsrc.out s2.out (by omega) s3.out ?_; rw [← hW.out])
  go_wp2
  go_ret
  have hj1 := H1.out
  refine ⟨by rw [show n - 1 = i + (n - j) by omega]; rfl, ?_⟩
  rw [hW.out, Nat.zero_add, hN.out, show i + (n - j) = n - 1 by omega]
  rw [Nat.mul_one (n - 1)]
end dl
end Go.Proofs.YtjbgafbijamckaaGreatDoor
