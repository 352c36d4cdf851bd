/-
  (*strings.Replacer).Replace at pairs of single bytes and texts, the first call. strings.NewReplacer and Replace over data. NewReplacer of a row of the caller's own; Replace under any label. A text in quotes: conf.quoted; days and words as texts.
-/
import Derived.Test.YtemiaognopgnnaaGreatDoorRp3
import Derived.Test.YtemiaognopgnnaaGreatDoorQ0
import Derived.Test.YtemiaognopgnnaaGreatDoorN18
import Derived.Test.YtemiaognopgnnaaGreatDoorTy
namespace Go.Proofs.YtemiaognopgnnaaGreatDoor.rp
open Go.RowKit
set_option linter.unusedVariables false
set_option linter.unusedSimpArgs false
theorem Tb.mono {P : Nat → ByteArray} {n j B : Nat} {g f : Nat → Value} {w w' : World} (h : Tb P n j B g f w) (hk : ∀ k, B ≤ k → k < w.heap.size → w'.heap[k]? = w.heap[k]?) : Tb P n j B g f w' :=
  ⟨h.row.of_block (hk _ (Nat.le_refl _) h.row.lt), h.tab.of_block (hk _ (by omega) h.tab.lt), h.g256, h.fs, fun i h1 h2 => by
    obtain ⟨q, c, q1, q2, q3, q4, q5⟩ := h.on i h1 h2
    exact ⟨q, c, q1, q2, q3, q4, fun t ht => (World.cell?_of_block (hk q (by omega) (World.block_lt_of_cell? w ⟨q, t, none⟩ (q5 t ht)))).trans (q5 t ht)⟩, h.off⟩
/-- A Replacer of which nothing has been asked yet: n pairs of old and new strings at ⟨q, o⟩. -/
structure New (P : Nat → ByteArray) (n b q o c : Nat) (w : World) : Prop where
  blk : ∃ T g, w.rowIs b T 5 g ∧ g 0 = .int .u32 0 ∧ g 1 = .int .i32 0 ∧ g 4 = .slice (some ⟨q, o, none⟩) (2 * n : Nat) c
  strs : ∀ i, i < 2 * n → w.cell? ⟨q, o + i, none⟩ = some (.string (P i))
  apart : q ≠ b
/-- What the building leaves. -/
def Built (P : Nat → ByteArray) (n b B : Nat) (w w' : World) : Prop :=
  (∃ T g, w'.rowIs b T 5 g ∧ g 0 = .int .u32 0 ∧ g 1 = .int .i32 1 ∧ g 3 = .iface 188 (.pointer (some ⟨B + 1, 0, none⟩))) ∧ (∃ g f, Tb P n n B g f w') ∧
  w'.os = w.os ∧ w'.tape = w.tape ∧ w'.output = w.output ∧ w.heap.size ≤ w'.heap.size ∧ ∀ k, k < w.heap.size → k ≠ b → w'.heap[k]? = w.heap[k]?
set_option maxRecDepth 100000 in
set_option maxHeartbeats 1600000 in
theorem buildOnce_str (P : Nat → ByteArray) (n : Nat) (hp : Prs P n) (h1 : all1 P n = false) (b q o c : Nat) (w : World) (T : TypeId) (g : Nat → Value) (hR : w.rowIs b T 5 g) (g0 : g 0 = .int .u32 0) (g1 : g 1 = .int .i32 1) (g4 : g 4 = .slice (some ⟨q, o, none⟩) (2 * n : Nat) c)
    (hP : ∀ i, i < 2 * n → w.cell? ⟨q, o + i, none⟩ = some (.string (P i))) :
    Calls Tryz.prog 67 #[.pointer (some ⟨b, 0, none⟩)] w fun e w' => e = .returned (.tuple #[]) ∧ Built P n b w.heap.size w w' := by
  have hc : w.cell? ⟨b, 4, none⟩ = some (.slice (some ⟨q, o, none⟩) (2 * n : Nat) c) := by rw [hR.cell (by omega), g4]
  have hlt := hR.lt
  go_enter Tryz.func67, Tryz.ntmps67
  go_wp2_with (go_at_call 113; refine (build_str P n hp h1 b q o c w hc hP).mono ?_; rintro e w1 ⟨rfl, hB, gt, ft, hT⟩; have hR1 := hR.of_block (hB.block b hlt); have c3 := hR1.cell (i := 3) (by omega); have z3 := hR1.frozen 3; have hR2 := hR1.set 3 (.iface 188 (.pointer (some ⟨w.heap.size + 1, 0, none⟩))); have c4 := hR2.cell (i := 4) (by omega); have z4 := hR2.frozen 4)
  go_end0
  refine ⟨rfl, ⟨T, _, hR2.set 4 _, by rw [if_neg (by omega), if_neg (by omega)]; exact g0, by rw [if_neg (by omega), if_neg (by omega)]; exact g1, by rw [if_neg (by omega)]; exact if_pos rfl⟩, ⟨gt, ft, hT.mono fun k hk _ => ?_⟩, hB.os, hB.tape, hB.output, by rw [set_size, set_size]; exact hB.size, fun k hk hne => ?_⟩
  · rw [Go.Deep.blk_setCell_other _ _ _ _ (by show k ≠ b; omega), Go.Deep.blk_setCell_other _ _ _ _ (by show k ≠ b; omega)]
  · rw [Go.Deep.blk_setCell_other _ _ _ _ hne, Go.Deep.blk_setCell_other _ _ _ _ hne, hB.block k hk]
set_option maxRecDepth 100000 in
set_option maxHeartbeats 1600000 in
theorem replacer_str (P : Nat → ByteArray) (n : Nat) (hp : Prs P n) (h1 : all1 P n = false) (b q o c : Nat) (w : World) (hN : New P n b q o c w) (s : ByteArray) (hs : s.size ≤ 17179869184) :
    Calls Tryz.prog 38 #[.pointer (some ⟨b, 0, none⟩), .string s] w fun e w' => e = .returned (.string ⟨(outB P n s.data.toList).toArray⟩) ∧ w'.os = w.os ∧ w'.tape = w.tape ∧ w'.output = w.output ∧ w.heap.size ≤ w'.heap.size ∧ ∀ k, k < w.heap.size → k ≠ b → w'.heap[k]? = w.heap[k]? := by
  obtain ⟨⟨T, g, hR, g0, g1, g4⟩, hP, hq⟩ := hN
  have hlt := hR.lt
  have hR1 := hR.set 1 (.int .i32 1)
  have hbo := buildOnce_str P n hp h1 b q o c (w.setCell ⟨b, 1, none⟩ (.int .i32 1)) T _ hR1 (by rw [if_neg (by omega)]; exact g0) (by exact if_pos rfl) (by rw [if_neg (by omega)]; exact g4)
    (fun i hi => (World.cell?_setCell_other _ _ _ _ (by intro e; have := congrArg Addr.block e; simp at this; exact hq this.symm)).trans (hP i hi))
  rw [set_size] at hbo
  have hdo := do_first 67 b 0 (.pointer (some ⟨b, 0, none⟩)) (Built P n b w.heap.size (w.setCell ⟨b, 1, none⟩ (.int .i32 1))) w (by rw [hR.cell (by omega), g0]) (by rw [hR.cell (by omega), g1]) (hR.frozen 0) (hR.frozen 1)
    (hbo.mono fun e w' ⟨he, hb⟩ => by
      obtain ⟨⟨T', g', q1, q2, q3, q4⟩, _⟩ := id hb
      exact ⟨he, ⟨by rw [q1.cell (by omega), q2], by rw [q1.cell (by omega), q3], q1.frozen 0, q1.frozen 1⟩, hb⟩)
    (fun w => enters_of Tryz.func67 (by kernel_rfl) rfl _ w)
  have hdo2 : Calls Tryz.prog 66 #[.pointer (some ⟨b, 0, none⟩), .func (.func 67) #[.pointer (some ⟨b, 0, none⟩)] #[]] w fun e w2 => e = .returned (.tuple #[]) ∧ w2.cell? ⟨b, 3, none⟩ = some (.iface 188 (.pointer (some ⟨w.heap.size + 1, 0, none⟩))) ∧
      (∃ gt ft, Tb P n n w.heap.size gt ft w2) ∧ w2.os = w.os ∧ w2.tape = w.tape ∧ w2.output = w.output ∧ w.heap.size ≤ w2.heap.size ∧ ∀ k, k < w.heap.size → k ≠ b → w2.heap[k]? = w.heap[k]? := by
    refine hdo.mono ?_
    rintro e w2 ⟨rfl, w1, ⟨⟨T', g', q1, q2, q3, q4⟩, ⟨gt, ft, hT⟩, ho, ht, hou, hsz, hblk⟩, rfl⟩
    have hR2 := (q1.drew.set 0 (.int .u32 1)).set 1 (.int .i32 0)
    have c3 := hR2.cell (i := 3) (by omega)
    simp only [show ¬ ((3 : Nat) = 1) by omega, show ¬ ((3 : Nat) = 0) by omega, if_false, q4] at c3
    rw [set_size] at hsz
    refine ⟨rfl, c3, ⟨gt, ft, hT.mono fun k hk _ => ?_⟩, ho, ht, hou, by rw [set_size, set_size]; exact hsz, fun k hk hne => ?_⟩
    · rw [Go.Deep.blk_setCell_other _ _ _ _ (by show k ≠ b; omega), Go.Deep.blk_setCell_other _ _ _ _ (by show k ≠ b; omega)]
      rfl
    · rw [Go.Deep.blk_setCell_other _ _ _ _ hne, Go.Deep.blk_setCell_other _ _ _ _ hne]
      have := hblk k (by rw [set_size]; exact hk) hne
      rw [Go.Deep.blk_setCell_other _ _ _ _ hne] at this
      exact this
  have hmf : ∀ (fn : Fn) (first cap : Array Value) (w : World), (Instr.makeFunc fn first cap).run Tryz.prog w = .ok (.func fn first cap) w := fun _ _ _ _ => rfl
  clear hdo hbo hR1
  go_enter Tryz.func38, Tryz.ntmps38
  go_wp2_with (first | (go_at_call 66; refine hdo2.mono ?_; rintro e w2 ⟨rfl, c3, ⟨gt, ft, hT⟩, ho, ht, hou, hsz, hblk⟩) | (go_at_call 292; refine (replace_str P n w.heap.size gt ft w2 hp hT s hs).mono ?_; rintro e w3 ⟨rfl, hB⟩))
  go_ret
  exact ⟨rfl, hB.os.trans ho, hB.tape.trans ht, hB.output.trans hou, Nat.le_trans hsz hB.size, fun k hk hne => (hB.block k (by omega)).trans (hblk k hk hne)⟩
end Go.Proofs.YtemiaognopgnnaaGreatDoor.rp
namespace Go.Proofs.YtemiaognopgnnaaGreatDoor.rp
open Go.RowKit
set_option linter.unusedVariables false
set_option linter.unusedSimpArgs false
theorem rB_le {P : Nat → ByteArray} {n : Nat} (hp : Prs P n) (x : UInt8) : (rB P n x).length ≤ 100 := by
  rcases rB_cases P n x with ⟨i, hi, rfl⟩ | h
  · rw [rB_key hp hi, Array.length_toList]
    exact (hp.new i hi).2
  · rw [rB_no h]
    exact Nat.le_of_ble_eq_true rfl
theorem out_le {P : Nat → ByteArray} {n : Nat} (hp : Prs P n) : ∀ l : List UInt8, (outB P n l).length ≤ 100 * l.length
  | [] => Nat.le_refl _
  | x :: l => by
    have := out_le hp l
    have := rB_le hp x
    rw [show outB P n (x :: l) = rB P n x ++ outB P n l from rfl, List.length_append, List.length_cons]
    omega
/-- Pairs as a list. -/
def pr (l : List ByteArray) (i : Nat) : ByteArray := l.getD i ⟨#[]⟩
/-- The text with all pairs put in. -/
def repS (l : List ByteArray) (s : ByteArray) : ByteArray := ⟨(outB (pr l) (l.length / 2) s.data.toList).toArray⟩
theorem repS_size {l : List ByteArray} (hp : Prs (pr l) (l.length / 2)) (s : ByteArray) : (repS l s).size ≤ 100 * s.size := by
  have h1 := out_le hp s.data.toList
  have h2 : (repS l s).size = (outB (pr l) (l.length / 2) s.data.toList).length := by simp [repS, ByteArray.size]
  have h3 : s.data.toList.length = s.size := by simp
  omega
set_option maxRecDepth 100000 in
theorem new_raw (P : Nat → ByteArray) (N q o c : Nat) (w : World) (hst : ∀ i, i < N → w.cell? ⟨q, o + i, none⟩ = some (.string (P i))) (h0 : 0 < N) (hN : N ≤ 2000) (hev : N % 2 = 0) :
    Calls Tryz.prog 37 #[.slice (some ⟨q, o, none⟩) N c] w fun e w' => ∃ cq, e = .returned (.pointer (some ⟨w.heap.size + 1, 0, none⟩)) ∧ Below w.heap.size w w' ∧ N ≤ cq ∧ cq ≤ maxLen ∧ w'.heap.size = w.heap.size + 2 ∧
      w'.heap[w.heap.size + 1]? = some (.cells #[.int .u32 0, .int .i32 0, .int .u32 0, .nilIface, .slice (some ⟨w.heap.size, 0, none⟩) N cq] 98 (0, 0)) ∧ ∀ i, i < N → w'.cell? ⟨w.heap.size, i, none⟩ = some (.string (P i)) := by
  obtain ⟨i9, hi9, hz9, hsz9, hby9⟩ : ∃ i, Tryz.prog.info? 9 = some i ∧ i.zero = some (.string ⟨#[]⟩) ∧ i.size = 1 ∧ i.bytes = 16 := info_parts (by kernel_rfl)
  obtain ⟨news, hnews⟩ : ∃ news, news = (List.range N).map (fun i => Value.string (P i)) := ⟨_, rfl⟩
  have hnl : news.length = N := by rw [hnews]; simp
  have hat : ∀ j, j < N → news[j]? = some (.string (P j)) := fun j hj => by rw [hnews]; simp [hj]
  have hap := run_append_nil (P := Tryz.prog) (w := w) 27 27 9 i9 _ Tryz.underlying27 hi9 hz9 ⟨q, o, none⟩ N c news (by rw [hnl, hsz9, Nat.mul_one]) (fun j v hj => by
    have hlt : j < N := by rw [← hnl]; exact (List.getElem?_eq_some_iff.1 hj).1
    rw [hat j hlt] at hj
    injection hj with hj
    subst hj
    rw [Addr.add_lit]
    exact hst j hlt) h0 (by omega) (by rw [hby9]; omega)
  have hrem : ((N : Int) % 2 == 1) = false := by
    have : (N : Int) % 2 = 0 := by omega
    rw [this]; rfl
  obtain ⟨cq, hcq⟩ : ∃ cq, cq = grownCap w N 0 9 := ⟨_, rfl⟩
  have hcq1 : N ≤ cq := by rw [hcq]; exact grownCap_ge _ _ _ _
  have hcq2 : cq ≤ maxLen := by rw [hcq]; exact grownCap_le_maxLen _ _ _ _ (by unfold maxLen; omega)
  rw [← hcq] at hap
  clear hcq
  go_enter Tryz.func37, Tryz.ntmps37
  go_wp2_with (at_builtin; refine Lib.wpList_append_run _ rfl _ _ _ _ rfl _ _ rfl rfl _ _ hap ?_)
  go_ret
  have hsz2 : ∀ O1 O2 : Obj, ((w.alloc O1).alloc O2).drew.heap.size = w.heap.size + 2 := fun O1 O2 => by show ((w.alloc O1).alloc O2).heap.size = _; rw [alloc_size, alloc_size]
  refine ⟨cq, rfl, ⟨rfl, rfl, rfl, by rw [hsz2]; omega, fun k hk => ?_⟩, hcq1, hcq2, hsz2 _ _, ?_, fun i hi => ?_⟩
  · show ((w.alloc _).alloc _).heap[k]? = _
    rw [Go.Deep.blk_alloc_lt _ _ _ (by rw [alloc_size]; omega), Go.Deep.blk_alloc_lt _ _ _ hk]
  · show ((w.alloc _).alloc _).heap[w.heap.size + 1]? = _
    rw [← alloc_size w]
    exact heap_alloc_new _ _
  · have h1 : ∀ O2 : Obj, ((w.alloc (.cells ((List.map (fun i => Value.string (P i)) (List.range N)).toArray ++ Builtin.zeroCells #[Value.string { data := #[] }] (cq - N)) 9)).alloc O2).drew.cell? ⟨w.heap.size, i, none⟩ = some (.string (P i)) := fun O2 => by
      refine (World.cell?_of_block (w := w.alloc (.cells ((List.map (fun i => Value.string (P i)) (List.range N)).toArray ++ Builtin.zeroCells #[Value.string { data := #[] }] (cq - N)) 9)) (Go.Deep.blk_alloc_lt _ _ _ (by show w.heap.size < _; rw [alloc_size]; omega))).trans ?_
      rw [cell_of_row _ _ i _ _ _ (heap_alloc_new w _), Array.getElem?_append_left (by simpa using hi)]
      simp [hi]
    exact h1 _
section
variable (E : Env)
/-- A Replacer's cells at its beginning. -/
def rpC (l : List ByteArray) : List DD := [.v (.int .u32 0), .v (.int .i32 0), .v (.int .u32 0), .v .nilIface, encStrs l]
set_option maxRecDepth 100000 in
theorem replace_sp (l : List ByteArray) (n : Nat) (hn : l.length = 2 * n) (hp : Prs (pr l) n) (h1 : all1 (pr l) n = false) (s : ByteArray) (hs : s.size ≤ 17179869184) :
    SpH (cx Tryz.prog mixed tyT_ok E) 38 [.ptr 2000 0, dS s] [(2000, .cells (rpC l))] (dS (repS l s)) [] := by
  have hn2 : l.length / 2 = n := by omega
  have h2n := hp.n2
  refine ⟨⟨_, _, Tryz.func38, by kernel_rfl, rfl⟩, fun M β w vs hG hMG hM hlv hr hH hb => ?_⟩
  have m0 : ((2000, .cells (rpC l)) : Nat × Ob RC) ∈ [(2000, (.cells (rpC l) : Ob RC))] := List.mem_cons_self
  obtain ⟨b, c, arr, T, hβ, hA, hR, hV⟩ := (hH.ob 2000 _ m0).2
  have e0 : vs.getD 0 undef = .pointer (some ⟨b, 0, none⟩) := by
    have := hr 0 _ rfl
    generalize vs.getD 0 undef = v at this
    cases this with
    | ptr h => rw [hβ] at h; injection h with h; injection h with h; injection h with h _; subst h; rfl
  have e1 := (hr 1 _ rfl).val.1
  have evs : vs = #[.pointer (some ⟨b, 0, none⟩), .string s] := by
    have hl : vs.size = 2 := hlv
    apply Array.ext
    · simpa using hl
    · intro k q1 q2
      have hk : k < 2 := by omega
      match k, hk with
      | 0, _ => simpa [Array.getD, q1] using e0
      | 1, _ => simpa [Array.getD, q1] using e1
  have a0 := (hR.r 0 _ rfl).val.1
  have a1 := (hR.r 1 _ rfl).val.1
  have a4 := hR.r 4 _ rfl
  have hsz : arr.size = 5 := hR.n
  have hrow : w.rowIs b T 5 (fun k => arr.getD k undef) := ⟨arr, hA, hsz, fun k hk => by
    have hk' : k < arr.size := by omega
    simp [Array.getD, hk']⟩
  unfold encStrs at a4
  generalize hv4 : arr.getD 4 undef = v4 at a4
  generalize hll : l.length = ll at a4
  cases a4 with
  | nil hc hA => omega
  | @sl _ _ _ _ cq q o _ u hc hm hby hu hrr =>
    have hN : New (pr l) n b q o cq w := by
      refine ⟨⟨T, _, hrow, a0, a1, ?_⟩, fun i hi => ?_, fun e => ?_⟩
      · show arr.getD 4 undef = _
        rw [hv4, ← hn, hll]
      · have h3 := (hu i 0 (by omega) (by omega)).2.1
        have h4 := (hrr i 0 (by omega) (by omega)).val.1
        rw [h4] at h3
        simpa [pr] using h3
      · have := (hu 0 0 (by omega) (by omega)).1
        rw [e] at this
        exact hV _ this
    have hblk : blocks β [(2000, (.cells (rpC l) : Ob RC))] b := ⟨2000, _, c, m0, hβ⟩
    rw [evs]
    refine (replacer_str (pr l) n hp h1 b q o cq w hN s hs).mono ?_
    rintro e w' ⟨rfl, ho, ht, hou, hsz', hbl⟩
    have hrs := repS_size (l := l) (by rw [hn2]; exact hp) s
    have hrep : repS l s = ⟨(outB (pr l) n s.data.toList).toArray⟩ := by unfold repS; rw [hn2]
    refine ⟨_, M, β, rfl, ⟨ho, ht, hou, hsz', fun k hk hs => hbl k hk (fun h => hs (h ▸ hblk))⟩, fun _ _ _ => rfl, fun _ _ h => h, fun _ _ h => .inl h, ?_, ⟨fun l o hm => (by cases hm), fun l o l' o' b c c' hm => (by cases hm)⟩, fun b ⟨l, o, c, hm, _⟩ => (by cases hm)⟩
    rw [hrep] at hrs ⊢
    exact .v (decide_eq_true (by unfold maxLen; omega))
set_option maxRecDepth 100000 in
theorem newReplacer_sp (l : List ByteArray) (n : Nat) (hn : l.length = 2 * n) (h0 : 0 < n) (hb : n ≤ 1000) :
    SpH (cx Tryz.prog mixed tyT_ok E) 37 [encStrs l] [] (.ptr 2000 0) [(2000, .cells (rpC l))] := by
  refine ⟨⟨_, _, Tryz.func37, by kernel_rfl, rfl⟩, fun M β w vs hG hMG hM hlv hr hH hbk => ?_⟩
  have a0 := hr 0 _ rfl
  unfold encStrs at a0
  generalize hv4 : vs.getD 0 undef = v4 at a0
  generalize hll : l.length = ll at a0
  have evs : vs = #[v4] := by
    have hl : vs.size = 1 := hlv
    apply Array.ext
    · simpa using hl
    · intro k q1 q2
      have hk : k < 1 := by omega
      match k, hk with
      | 0, _ => simpa [Array.getD, q1] using hv4
  cases a0 with
  | nil hc hA => omega
  | @sl _ _ _ _ cq q o _ u hc hm hby hu hrr =>
    rw [evs]
    have hst : ∀ i, i < ll → w.cell? ⟨q, o + i, none⟩ = some (.string (pr l i)) := fun i hi => by
      have h3 := (hu i 0 (by omega) (by omega)).2.1
      have h4 := (hrr i 0 (by omega) (by omega)).val.1
      rw [h4] at h3
      simpa [pr] using h3
    have hev : ll % 2 = 0 := by omega
    refine (new_raw (pr l) ll q o cq w hst (by omega) (by omega) hev).mono ?_
    rintro e w' ⟨cp, rfl, hB, h1, h2, hsz, hA, hS⟩
    have hβ' : (fun k => if k = 2000 then some (some (w.heap.size + 1, 1)) else β k : Bt) 2000 = some (some (w.heap.size + 1, 1)) := by simp
    refine ⟨_, fun b o => M b o ∨ b = w.heap.size, fun k => if k = 2000 then some (some (w.heap.size + 1, 1)) else β k, rfl, Kp.of hB _, fun l o hm => (by cases hm), fun _ _ h => .inl h, fun b o h => h.elim .inl (fun e => .inr (.inr ⟨by omega, by omega⟩)), .ptr hβ', ⟨fun l' o' hm => ?_, fun l o l' o' b c c' hm hm' _ _ => ?_⟩, fun b' ⟨l', o', c', hm, he⟩ => ?_⟩
    · obtain ⟨rfl, rfl⟩ := Prod.mk.inj (List.mem_singleton.1 hm)
      refine ⟨rfl, _, _, _, _, hβ', hA, ⟨rfl, fun i hi => ?_, fun i d hd => ?_⟩, fun q h => ?_⟩
      · match i, hi with
        | 0, _ => rfl
        | 1, _ => rfl
        | 2, _ => rfl
        | 3, _ => rfl
        | 4, _ => rfl
      · match i, hd with
        | 0, hd => injection hd with hd; subst hd; exact .v rfl
        | 1, hd => injection hd with hd; subst hd; exact .v rfl
        | 2, hd => injection hd with hd; subst hd; exact .v rfl
        | 3, hd => injection hd with hd; subst hd; exact .v rfl
        | 4, hd =>
          injection hd with hd
          subst hd
          unfold encStrs
          rw [hll]
          refine .sl (fun i _ => .string (pr l i)) h1 h2 (by omega) (fun i j hi hj => ?_) (fun i j hi hj => ?_)
          · obtain rfl : j = 0 := by omega
            refine ⟨.inr rfl, ?_, rfl⟩
            simpa using hS i hi
          · obtain rfl : j = 0 := by omega
            have h4 := hrr i 0 hi (by omega)
            obtain ⟨h5, h6⟩ := h4.val
            exact .v h6
      · rcases h with h | h
        · have := hM _ _ h; omega
        · omega
    · rw [(Prod.mk.inj (List.mem_singleton.1 hm)).1, (Prod.mk.inj (List.mem_singleton.1 hm')).1]
    · obtain ⟨rfl, rfl⟩ := Prod.mk.inj (List.mem_singleton.1 hm)
      rw [hβ'] at he
      injection he with he
      injection he with he
      injection he with he _
      exact .inr (by omega)
end
end Go.Proofs.YtemiaognopgnnaaGreatDoor.rp
namespace Go.Proofs.YtemiaognopgnnaaGreatDoor.rp
open Go.RowKit
set_option linter.unusedVariables false
set_option linter.unusedSimpArgs false
theorem rep_own1 {κ : Type} {X : Cx κ} {M : Nat → Nat → Prop} {β : Bt} {w : World} {l s n b c : Nat} {x : Value} (h : Rep X.V M w β (.own l s 0 n) x) (hβ : β l = some (some (b, c))) : x = .slice (some ⟨b, 0, none⟩) n c := by
  generalize hN : n = m at h
  cases h with
  | own h _ _ =>
    rw [hβ] at h
    injection h with h
    injection h with h
    injection h with h1 h2
    subst h1 h2
    simp
  | ownE ho _ _ => exact absurd ho (Nat.lt_irrefl _)
  | ownNil h => rw [hβ] at h; cases h
section
variable (E : Env)
/-- A row of strings as it is written down. -/
def rowL (l : List ByteArray) (i j : Nat) : DD := (l.map (fun s => (dS s : DD))).getD (i * 1 + j) .opq
theorem rowL_at {l : List ByteArray} {i : Nat} (hi : i < l.length) : rowL l i 0 = dS (pr l i) := by
  unfold rowL pr
  rw [Nat.mul_one, Nat.add_zero, List.getD_eq_getElem?_getD, List.getElem?_map, List.getD_eq_getElem?_getD, List.getElem?_eq_getElem hi]
  rfl
set_option maxRecDepth 100000 in
theorem newRow_sp (l : List ByteArray) (n : Nat) (hn : l.length = 2 * n) (h0 : 0 < n) (hb : n ≤ 1000) :
    SpH (cx Tryz.prog mixed tyT_ok E) 37 [.own 2001 1 0 (2 * n)] [(2001, .row 9 (2 * n) (rowL l))] (.ptr 2000 0) [(2000, .cells (rpC l))] := by
  refine ⟨⟨_, _, Tryz.func37, by kernel_rfl, rfl⟩, fun M β w vs hG hMG hM hlv hr hH hbk => ?_⟩
  have m0 : ((2001, .row 9 (2 * n) (rowL l)) : Nat × Ob RC) ∈ [(2001, (.row 9 (2 * n) (rowL l) : Ob RC))] := List.mem_cons_self
  obtain ⟨_, ho⟩ := (hH.ob 2001 _ m0).2
  have a0 := hr 0 _ rfl
  rcases ho with ⟨hβ, hz⟩ | ⟨b, c, arr, hβ, hA, hsz, hnc, hcm, hby, hcell, hvis⟩
  · omega
  have hs1 : (tyT 9).size = 1 := by kernel_rfl
  have hsz : arr.size = c * (tyT 9).size := hsz
  have hcell : ∀ i j, i < 2 * n → j < (tyT 9).size → (arr.getD (i * (tyT 9).size + j) undef).oneCell' = true ∧ Rep view M w b0 (rowL l i j) (arr.getD (i * (tyT 9).size + j) undef) := hcell
  rw [hs1] at hsz hcell
  have e0 : vs.getD 0 undef = .slice (some ⟨b, 0, none⟩) (2 * n) c := rep_own1 a0 hβ
  have evs : vs = #[.slice (some ⟨b, 0, none⟩) (2 * n) c] := by
    have hl : vs.size = 1 := hlv
    apply Array.ext
    · simpa using hl
    · intro k q1 q2
      have hk : k < 1 := by omega
      match k, hk with
      | 0, _ => simpa [Array.getD, q1] using e0
  rw [evs]
  have hval : ∀ i, i < 2 * n → arr.getD i undef = .string (pr l i) ∧ okB (.string (pr l i)) = true := fun i hi => by
    have h4 := (hcell i 0 hi (by omega)).2
    rw [rowL_at (by omega), Nat.mul_one, Nat.add_zero] at h4
    exact h4.val
  have hst : ∀ i, i < 2 * n → w.cell? ⟨b, 0 + i, none⟩ = some (.string (pr l i)) := fun i hi => by
    have hlt : i < arr.size := by omega
    rw [Nat.zero_add, cell_of_row _ _ _ _ _ _ hA, ← (hval i hi).1]
    simp [Array.getD, hlt]
  refine (new_raw (pr l) (2 * n) b 0 c w hst (by omega) (by omega) (by omega)).mono ?_
  rintro e w' ⟨cp, rfl, hB, h1, h2, hsz', hA', hS⟩
  have hβ' : (fun k => if k = 2000 then some (some (w.heap.size + 1, 1)) else β k : Bt) 2000 = some (some (w.heap.size + 1, 1)) := by simp
  refine ⟨_, fun b o => M b o ∨ b = w.heap.size, fun k => if k = 2000 then some (some (w.heap.size + 1, 1)) else β k, rfl, Kp.of hB _, fun l' o' hm => ?_, fun _ _ h => .inl h, fun b o h => h.elim .inl (fun e => .inr (.inr ⟨by omega, by omega⟩)), .ptr hβ', ⟨fun l' o' hm => ?_, fun l o l' o' b c c' hm hm' _ _ => ?_⟩, fun b' ⟨l', o', c', hm, he⟩ => ?_⟩
  · rw [(Prod.mk.inj (List.mem_singleton.1 hm)).1]
    simp
  · obtain ⟨rfl, rfl⟩ := Prod.mk.inj (List.mem_singleton.1 hm)
    refine ⟨rfl, _, _, _, _, hβ', hA', ⟨rfl, fun i hi => ?_, fun i d hd => ?_⟩, fun q h => ?_⟩
    · match i, hi with
      | 0, _ => rfl
      | 1, _ => rfl
      | 2, _ => rfl
      | 3, _ => rfl
      | 4, _ => rfl
    · match i, hd with
      | 0, hd => injection hd with hd; subst hd; exact .v rfl
      | 1, hd => injection hd with hd; subst hd; exact .v rfl
      | 2, hd => injection hd with hd; subst hd; exact .v rfl
      | 3, hd => injection hd with hd; subst hd; exact .v rfl
      | 4, hd =>
        injection hd with hd
        subst hd
        unfold encStrs
        rw [hn]
        refine .sl (fun i _ => .string (pr l i)) h1 h2 (by omega) (fun i j hi hj => ?_) (fun i j hi hj => ?_)
        · obtain rfl : j = 0 := by omega
          refine ⟨.inr rfl, ?_, rfl⟩
          simpa using hS i hi
        · obtain rfl : j = 0 := by omega
          exact .v (hval i hi).2
    · rcases h with h | h
      · have := hM _ _ h; omega
      · omega
  · rw [(Prod.mk.inj (List.mem_singleton.1 hm)).1, (Prod.mk.inj (List.mem_singleton.1 hm')).1]
  · obtain ⟨rfl, rfl⟩ := Prod.mk.inj (List.mem_singleton.1 hm)
    rw [hβ'] at he
    injection he with he
    injection he with he
    injection he with he _
    exact .inr (by omega)
end
end Go.Proofs.YtemiaognopgnnaaGreatDoor.rp
namespace Go.Proofs.YtemiaognopgnnaaGreatDoor
open Go.RowKit
set_option linter.unusedVariables false
set_option linter.unusedSimpArgs false
namespace pn
open rp
/-- The pairs of a quoted text. -/
def qp : List ByteArray := [⟨#[10]⟩, ⟨#[92, 110]⟩, ⟨#[9]⟩, ⟨#[92, 116]⟩, ⟨#[34]⟩, ⟨#[92, 34]⟩, ⟨#[92]⟩, ⟨#[92, 92]⟩]
theorem qp_prs : Prs (pr qp) 4 where
  n2 := by decide
  n100 := by decide
  old := by decide
  new := by decide
  two := fun i j hi hj h => (by decide : ∀ i, i < 4 → ∀ j, j < 4 → bAt (pr qp (2 * i)) 0 = bAt (pr qp (2 * j)) 0 → i = j) i hi j hj h
theorem qp_all : all1 (pr qp) 4 = false := by decide
/-- A text in quotes. -/
@[irreducible] def quo (s : ByteArray) : ByteArray := ⟨#[34]⟩ ++ repS qp s ++ ⟨#[34]⟩
theorem quo_size (s : ByteArray) : (quo s).size ≤ 100 * s.size + 2 := by
  have := repS_size (l := qp) qp_prs s
  unfold quo
  rw [ByteArray.size_append, ByteArray.size_append]
  have h1 : (⟨#[34]⟩ : ByteArray).size = 1 := rfl
  omega
section
variable (E : Env)
theorem newQ_l (A L : Nat) (hAL : A ≠ L) : SpH (cx Tryz.prog mixed tyT_ok E) 37 [.own A 1 0 8] [(A, .row 9 8 (rowL qp))] (.ptr L 0) [(L, .cells (rpC qp))] := by
  have h := (newRow_sp E qp 4 rfl (by decide) (by decide)).to2 2001 2000 A L
  have h1 : ren2 2001 2000 A L 2001 = A := ren2_l (by decide) hAL
  have h2 : ren2 2001 2000 A L 2000 = L := ren2_r _ _ _ _
  simpa only [D.renL, D.ren, renH, Ob.ren, h1, h2, rpC, encStrs, List.map_cons, List.map_nil] using h
theorem replQ_l (L : Nat) (s : ByteArray) (hs : s.size ≤ 17179869184) : SpH (cx Tryz.prog mixed tyT_ok E) 38 [.ptr L 0, dS s] [(L, .cells (rpC qp))] (dS (repS qp s)) [] := by
  have h := (replace_sp E qp 4 rfl qp_prs qp_all s hs).swap 2000 L
  simpa only [D.renL, D.ren, renH, Ob.ren, swp_l, rpC, encStrs, List.map_cons, List.map_nil] using h
set_option maxRecDepth 100000
theorem quoted_sp (s : ByteArray) (hs : s.size ≤ 17179869184) : Sp (cx Tryz.prog mixed tyT_ok E) 115 [dS s] (dS (quo s)) := by
  have h1 := newQ_l E 3 4 (by decide)
  have h2 := replQ_l E 4 s hs
  have h3 : (repS qp s).size ≤ 100 * s.size := repS_size (l := qp) qp_prs s
  have hq : quo s = ⟨#[34]⟩ ++ repS qp s ++ ⟨#[34]⟩ := by unfold quo; rfl
  generalize quo s = q at hq
  generalize repS qp s = r at h2 h3 hq
  have hz1 : ((⟨#[34]⟩ : ByteArray) ++ r).size = 1 + r.size := ByteArray.size_append
  have hz2 : ((⟨#[34]⟩ : ByteArray) ++ r ++ ⟨#[34]⟩).size = 1 + r.size + 1 := by rw [ByteArray.size_append, hz1]; rfl
  have hz0 : (⟨#[34]⟩ : ByteArray).size = 1 := rfl
  have hz3 : ((⟨#[34]⟩ : ByteArray) ++ r).size ≤ maxLen := by unfold maxLen; omega
  have hz4 : ((⟨#[34]⟩ : ByteArray) ++ r ++ ⟨#[34]⟩).size ≤ maxLen := by unfold maxLen; omega
  subst hq
  refine Sp.body Tryz.func115 (by kernel_rfl) rfl (by kernel_rfl) (by kernel_rfl) (by kernel_rfl) ?_
  repeat' first
    | refine Or.inr ⟨_, _, _, h1, by kernel_rfl, (by repeat' first | exact trivial | exact rfl | kernel_rfl | exact Dle.of_eq rfl | exact MLe.of_eq rfl | exact Dle.i (by omega) | exact Dle.i (by simp only [Int.toNat_natCast] at *; omega) | exact Dle.nil | exact Dle.rc Dle.nil | exact Option.some_ne_none _ | exact Or.inl rfl | exact Or.inr trivial | omega | (simp only [Int.toNat_natCast] at *; omega) | (intro _ _ _ _; exact Dle.of_eq rfl) | refine And.intro ?_ ?_), ?_⟩
    | refine Or.inr ⟨_, _, _, h2, by kernel_rfl, (by repeat' first | exact trivial | exact rfl | kernel_rfl | exact Dle.of_eq rfl | exact MLe.of_eq rfl | exact Dle.i (by omega) | exact Dle.i (by simp only [Int.toNat_natCast] at *; omega) | exact Dle.nil | exact Dle.rc Dle.nil | exact Option.some_ne_none _ | exact Or.inl rfl | exact Or.inr trivial | omega | (simp only [Int.toNat_natCast] at *; omega) | (intro _ _ _ _; exact Dle.of_eq rfl) | refine And.intro ?_ ?_), ?_⟩
    | (refine codeW_cond rfl ?_; first | (refine condW_dec ?_ ?_ <;> intro _ <;> try (exfalso; omega)) | refine condW_not ?_ | (refine condW_bool ?_ ?_ <;> intro _ <;> try (exfalso; omega)))
    | (refine facW_intro ?_; intro _)
    | refine Or.inl ?_
    | ((conv => whnf); first | (refine condW_dec ?_ ?_ <;> intro _ <;> try (exfalso; omega)) | refine condW_not ?_ | (refine condW_bool ?_ ?_ <;> intro _ <;> try (exfalso; omega)) | (refine nbC_t (fun _ => ?_) ?_) | (refine nbC_f ?_ (fun _ => ?_)))
    | refine And.intro (by first | omega | (simp only [Int.toNat_natCast] at *; omega) | (simp only [Nat.reduceAdd, Int.cast_ofNat_Int, true_and, and_true]; omega)  | kernel_rfl) ?_
    | refine RegW.run ?_
    | fail
  all_goals first
    | exact Dle.refl _ _
    | trace_state
end
end pn
end Go.Proofs.YtemiaognopgnnaaGreatDoor
