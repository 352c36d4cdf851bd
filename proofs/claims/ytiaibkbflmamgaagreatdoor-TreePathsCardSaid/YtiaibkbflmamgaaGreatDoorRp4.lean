/-
  (*strings.Replacer).Replace at pairs of single bytes and texts, the first call.
-/
import Derived.Test.YtiaibkbflmamgaaGreatDoorRp3
namespace Go.Proofs.YtiaibkbflmamgaaGreatDoor.rp
open Go.RowKit
set_option linter.unusedVariables false
set_option linter.unusedSimpArgs false
theorem Tb.mono {P : Nat → ByteArray} {n j B : Nat} {g f : Nat → Value} {w w' : World} (h : Tb P n j B g f w) (hk : ∀ k, B ≤ k → k < w.heap.size → w'.heap[k]? = w.heap[k]?) : Tb P n j B g f w' :=
  ⟨h.row.of_block (hk _ (Nat.le_refl _) h.row.lt), h.tab.of_block (hk _ (by omega) h.tab.lt), h.g256, h.fs, fun i h1 h2 => by
    obtain ⟨q, c, q1, q2, q3, q4, q5⟩ := h.on i h1 h2
    exact ⟨q, c, q1, q2, q3, q4, fun t ht => (World.cell?_of_block (hk q (by omega) (World.block_lt_of_cell? w ⟨q, t, none⟩ (q5 t ht)))).trans (q5 t ht)⟩, h.off⟩
/-- A Replacer of which nothing has been asked yet: n pairs of old and new strings at ⟨q, o⟩. -/
structure New (P : Nat → ByteArray) (n b q o c : Nat) (w : World) : Prop where
  blk : ∃ T g, w.rowIs b T 5 g ∧ g 0 = .int .u32 0 ∧ g 1 = .int .i32 0 ∧ g 4 = .slice (some ⟨q, o, none⟩) (2 * n : Nat) c
  strs : ∀ i, i < 2 * n → w.cell? ⟨q, o + i, none⟩ = some (.string (P i))
  apart : q ≠ b
/-- What the building leaves. -/
def Built (P : Nat → ByteArray) (n b B : Nat) (w w' : World) : Prop :=
  (∃ T g, w'.rowIs b T 5 g ∧ g 0 = .int .u32 0 ∧ g 1 = .int .i32 1 ∧ g 3 = .iface 299 (.pointer (some ⟨B + 1, 0, none⟩))) ∧ (∃ g f, Tb P n n B g f w') ∧
  w'.os = w.os ∧ w'.tape = w.tape ∧ w'.output = w.output ∧ w.heap.size ≤ w'.heap.size ∧ ∀ k, k < w.heap.size → k ≠ b → w'.heap[k]? = w.heap[k]?
set_option maxRecDepth 100000 in
set_option maxHeartbeats 1600000 in
theorem buildOnce_str (P : Nat → ByteArray) (n : Nat) (hp : Prs P n) (h1 : all1 P n = false) (b q o c : Nat) (w : World) (T : TypeId) (g : Nat → Value) (hR : w.rowIs b T 5 g) (g0 : g 0 = .int .u32 0) (g1 : g 1 = .int .i32 1) (g4 : g 4 = .slice (some ⟨q, o, none⟩) (2 * n : Nat) c)
    (hP : ∀ i, i < 2 * n → w.cell? ⟨q, o + i, none⟩ = some (.string (P i))) :
    Calls Tryz.prog 72 #[.pointer (some ⟨b, 0, none⟩)] w fun e w' => e = .returned (.tuple #[]) ∧ Built P n b w.heap.size w w' := by
  have hc : w.cell? ⟨b, 4, none⟩ = some (.slice (some ⟨q, o, none⟩) (2 * n : Nat) c) := by rw [hR.cell (by omega), g4]
  have hlt := hR.lt
  go_enter Tryz.func72, Tryz.ntmps72
  go_wp2_with (go_at_call 137; refine (build_str P n hp h1 b q o c w hc hP).mono ?_; rintro e w1 ⟨rfl, hB, gt, ft, hT⟩; have hR1 := hR.of_block (hB.block b hlt); have c3 := hR1.cell (i := 3) (by omega); have z3 := hR1.frozen 3; have hR2 := hR1.set 3 (.iface 299 (.pointer (some ⟨w.heap.size + 1, 0, none⟩))); have c4 := hR2.cell (i := 4) (by omega); have z4 := hR2.frozen 4)
  go_end0
  refine ⟨rfl, ⟨T, _, hR2.set 4 _, by rw [if_neg (by omega), if_neg (by omega)]; exact g0, by rw [if_neg (by omega), if_neg (by omega)]; exact g1, by rw [if_neg (by omega)]; exact if_pos rfl⟩, ⟨gt, ft, hT.mono fun k hk _ => ?_⟩, hB.os, hB.tape, hB.output, by rw [set_size, set_size]; exact hB.size, fun k hk hne => ?_⟩
  · rw [Go.Deep.blk_setCell_other _ _ _ _ (by show k ≠ b; omega), Go.Deep.blk_setCell_other _ _ _ _ (by show k ≠ b; omega)]
  · rw [Go.Deep.blk_setCell_other _ _ _ _ hne, Go.Deep.blk_setCell_other _ _ _ _ hne, hB.block k hk]
set_option maxRecDepth 100000 in
set_option maxHeartbeats 1600000 in
theorem replacer_str (P : Nat → ByteArray) (n : Nat) (hp : Prs P n) (h1 : all1 P n = false) (b q o c : Nat) (w : World) (hN : New P n b q o c w) (s : ByteArray) (hs : s.size ≤ 17179869184) :
    Calls Tryz.prog 33 #[.pointer (some ⟨b, 0, none⟩), .string s] w fun e w' => e = .returned (.string ⟨(outB P n s.data.toList).toArray⟩) ∧ w'.os = w.os ∧ w'.tape = w.tape ∧ w'.output = w.output ∧ w.heap.size ≤ w'.heap.size ∧ ∀ k, k < w.heap.size → k ≠ b → w'.heap[k]? = w.heap[k]? := by
  obtain ⟨⟨T, g, hR, g0, g1, g4⟩, hP, hq⟩ := hN
  have hlt := hR.lt
  have hR1 := hR.set 1 (.int .i32 1)
  have hbo := buildOnce_str P n hp h1 b q o c (w.setCell ⟨b, 1, none⟩ (.int .i32 1)) T _ hR1 (by rw [if_neg (by omega)]; exact g0) (by exact if_pos rfl) (by rw [if_neg (by omega)]; exact g4)
    (fun i hi => (World.cell?_setCell_other _ _ _ _ (by intro e; have := congrArg Addr.block e; simp at this; exact hq this.symm)).trans (hP i hi))
  rw [set_size] at hbo
  have hdo := do_first 72 b 0 (.pointer (some ⟨b, 0, none⟩)) (Built P n b w.heap.size (w.setCell ⟨b, 1, none⟩ (.int .i32 1))) w (by rw [hR.cell (by omega), g0]) (by rw [hR.cell (by omega), g1]) (hR.frozen 0) (hR.frozen 1)
    (hbo.mono fun e w' ⟨he, hb⟩ => by
      obtain ⟨⟨T', g', q1, q2, q3, q4⟩, _⟩ := id hb
      exact ⟨he, ⟨by rw [q1.cell (by omega), q2], by rw [q1.cell (by omega), q3], q1.frozen 0, q1.frozen 1⟩, hb⟩)
    (fun w => enters_of Tryz.func72 (by kernel_rfl) rfl _ w)
  have hdo2 : Calls Tryz.prog 71 #[.pointer (some ⟨b, 0, none⟩), .func (.func 72) #[.pointer (some ⟨b, 0, none⟩)] #[]] w fun e w2 => e = .returned (.tuple #[]) ∧ w2.cell? ⟨b, 3, none⟩ = some (.iface 299 (.pointer (some ⟨w.heap.size + 1, 0, none⟩))) ∧
      (∃ gt ft, Tb P n n w.heap.size gt ft w2) ∧ w2.os = w.os ∧ w2.tape = w.tape ∧ w2.output = w.output ∧ w.heap.size ≤ w2.heap.size ∧ ∀ k, k < w.heap.size → k ≠ b → w2.heap[k]? = w.heap[k]? := by
    refine hdo.mono ?_
    rintro e w2 ⟨rfl, w1, ⟨⟨T', g', q1, q2, q3, q4⟩, ⟨gt, ft, hT⟩, ho, ht, hou, hsz, hblk⟩, rfl⟩
    have hR2 := (q1.drew.set 0 (.int .u32 1)).set 1 (.int .i32 0)
    have c3 := hR2.cell (i := 3) (by omega)
    simp only [show ¬ ((3 : Nat) = 1) by omega, show ¬ ((3 : Nat) = 0) by omega, if_false, q4] at c3
    rw [set_size] at hsz
    refine ⟨rfl, c3, ⟨gt, ft, hT.mono fun k hk _ => ?_⟩, ho, ht, hou, by rw [set_size, set_size]; exact hsz, fun k hk hne => ?_⟩
    · rw [Go.Deep.blk_setCell_other _ _ _ _ (by show k ≠ b; omega), Go.Deep.blk_setCell_other _ _ _ _ (by show k ≠ b; omega)]
      rfl
    · rw [Go.Deep.blk_setCell_other _ _ _ _ hne, Go.Deep.blk_setCell_other _ _ _ _ hne]
      have := hblk k (by rw [set_size]; exact hk) hne
      rw [Go.Deep.blk_setCell_other _ _ _ _ hne] at this
      exact this
  have hmf : ∀ (fn : Fn) (first cap : Array Value) (w : World), (Instr.makeFunc fn first cap).run Tryz.prog w = .ok (.func fn first cap) w := fun _ _ _ _ => rfl
  clear hdo hbo hR1
  go_enter Tryz.func33, Tryz.ntmps33
  go_wp2_with (first | (go_at_call 71; refine hdo2.mono ?_; rintro e w2 ⟨rfl, c3, ⟨gt, ft, hT⟩, ho, ht, hou, hsz, hblk⟩) | (go_at_call 291; refine (replace_str P n w.heap.size gt ft w2 hp hT s hs).mono ?_; rintro e w3 ⟨rfl, hB⟩))
  go_ret
  exact ⟨rfl, hB.os.trans ho, hB.tape.trans ht, hB.output.trans hou, Nat.le_trans hsz hB.size, fun k hk hne => (hB.block k (by omega)).trans (hblk k hk hne)⟩
end Go.Proofs.YtiaibkbflmamgaaGreatDoor.rp
