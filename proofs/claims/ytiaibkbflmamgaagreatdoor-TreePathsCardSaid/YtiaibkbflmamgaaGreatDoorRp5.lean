/-
  strings.NewReplacer and Replace over data.
-/
import Derived.Test.YtiaibkbflmamgaaGreatDoorRp4
import Derived.Test.YtiaibkbflmamgaaGreatDoorQ0
import Derived.Test.YtiaibkbflmamgaaGreatDoorN18
import Derived.Test.YtiaibkbflmamgaaGreatDoorTy
namespace Go.Proofs.YtiaibkbflmamgaaGreatDoor.rp
open Go.RowKit
set_option linter.unusedVariables false
set_option linter.unusedSimpArgs false
theorem rB_le {P : Nat → ByteArray} {n : Nat} (hp : Prs P n) (x : UInt8) : (rB P n x).length ≤ 100 := by
  rcases rB_cases P n x with ⟨i, hi, rfl⟩ | h
  · rw [rB_key hp hi, Array.length_toList]
    exact (hp.new i hi).2
  · rw [rB_no h]
    exact Nat.le_of_ble_eq_true rfl
theorem out_le {P : Nat → ByteArray} {n : Nat} (hp : Prs P n) : ∀ l : List UInt8, (outB P n l).length ≤ 100 * l.length
  | [] => Nat.le_refl _
  | x :: l => by
    have := out_le hp l
    have := rB_le hp x
    rw [show outB P n (x :: l) = rB P n x ++ outB P n l from rfl, List.length_append, List.length_cons]
    omega
/-- Pairs as a list. -/
def pr (l : List ByteArray) (i : Nat) : ByteArray := l.getD i ⟨#[]⟩
/-- The text with all pairs put in. -/
def repS (l : List ByteArray) (s : ByteArray) : ByteArray := ⟨(outB (pr l) (l.length / 2) s.data.toList).toArray⟩
theorem repS_size {l : List ByteArray} (hp : Prs (pr l) (l.length / 2)) (s : ByteArray) : (repS l s).size ≤ 100 * s.size := by
  have h1 := out_le hp s.data.toList
  have h2 : (repS l s).size = (outB (pr l) (l.length / 2) s.data.toList).length := by simp [repS, ByteArray.size]
  have h3 : s.data.toList.length = s.size := by simp
  omega
set_option maxRecDepth 100000 in
theorem new_raw (P : Nat → ByteArray) (N q o c : Nat) (w : World) (hst : ∀ i, i < N → w.cell? ⟨q, o + i, none⟩ = some (.string (P i))) (h0 : 0 < N) (hN : N ≤ 2000) (hev : N % 2 = 0) :
    Calls Tryz.prog 32 #[.slice (some ⟨q, o, none⟩) N c] w fun e w' => ∃ cq, e = .returned (.pointer (some ⟨w.heap.size + 1, 0, none⟩)) ∧ Below w.heap.size w w' ∧ N ≤ cq ∧ cq ≤ maxLen ∧ w'.heap.size = w.heap.size + 2 ∧
      w'.heap[w.heap.size + 1]? = some (.cells #[.int .u32 0, .int .i32 0, .int .u32 0, .nilIface, .slice (some ⟨w.heap.size, 0, none⟩) N cq] 162 (0, 0)) ∧ ∀ i, i < N → w'.cell? ⟨w.heap.size, i, none⟩ = some (.string (P i)) := by
  obtain ⟨i9, hi9, hz9, hsz9, hby9⟩ : ∃ i, Tryz.prog.info? 9 = some i ∧ i.zero = some (.string ⟨#[]⟩) ∧ i.size = 1 ∧ i.bytes = 16 := info_parts (by kernel_rfl)
  obtain ⟨news, hnews⟩ : ∃ news, news = (List.range N).map (fun i => Value.string (P i)) := ⟨_, rfl⟩
  have hnl : news.length = N := by rw [hnews]; simp
  have hat : ∀ j, j < N → news[j]? = some (.string (P j)) := fun j hj => by rw [hnews]; simp [hj]
  have hap := run_append_nil (P := Tryz.prog) (w := w) 27 27 9 i9 _ Tryz.underlying27 hi9 hz9 ⟨q, o, none⟩ N c news (by rw [hnl, hsz9, Nat.mul_one]) (fun j v hj => by
    have hlt : j < N := by rw [← hnl]; exact (List.getElem?_eq_some_iff.1 hj).1
    rw [hat j hlt] at hj
    injection hj with hj
    subst hj
    rw [Addr.add_lit]
    exact hst j hlt) h0 (by omega) (by rw [hby9]; omega)
  have hrem : ((N : Int) % 2 == 1) = false := by
    have : (N : Int) % 2 = 0 := by omega
    rw [this]; rfl
  obtain ⟨cq, hcq⟩ : ∃ cq, cq = grownCap w N 0 9 := ⟨_, rfl⟩
  have hcq1 : N ≤ cq := by rw [hcq]; exact grownCap_ge _ _ _ _
  have hcq2 : cq ≤ maxLen := by rw [hcq]; exact grownCap_le_maxLen _ _ _ _ (by unfold maxLen; omega)
  rw [← hcq] at hap
  clear hcq
  go_enter Tryz.func32, Tryz.ntmps32
  go_wp2_with (at_builtin; refine Lib.wpList_append_run _ rfl _ _ _ _ rfl _ _ rfl rfl _ _ hap ?_)
  go_ret
  have hsz2 : ∀ O1 O2 : Obj, ((w.alloc O1).alloc O2).drew.heap.size = w.heap.size + 2 := fun O1 O2 => by show ((w.alloc O1).alloc O2).heap.size = _; rw [alloc_size, alloc_size]
  refine ⟨cq, rfl, ⟨rfl, rfl, rfl, by rw [hsz2]; omega, fun k hk => ?_⟩, hcq1, hcq2, hsz2 _ _, ?_, fun i hi => ?_⟩
  · show ((w.alloc _).alloc _).heap[k]? = _
    rw [Go.Deep.blk_alloc_lt _ _ _ (by rw [alloc_size]; omega), Go.Deep.blk_alloc_lt _ _ _ hk]
  · show ((w.alloc _).alloc _).heap[w.heap.size + 1]? = _
    rw [← alloc_size w]
    exact heap_alloc_new _ _
  · have h1 : ∀ O2 : Obj, ((w.alloc (.cells ((List.map (fun i => Value.string (P i)) (List.range N)).toArray ++ Builtin.zeroCells #[Value.string { data := #[] }] (cq - N)) 9)).alloc O2).drew.cell? ⟨w.heap.size, i, none⟩ = some (.string (P i)) := fun O2 => by
      refine (World.cell?_of_block (w := w.alloc (.cells ((List.map (fun i => Value.string (P i)) (List.range N)).toArray ++ Builtin.zeroCells #[Value.string { data := #[] }] (cq - N)) 9)) (Go.Deep.blk_alloc_lt _ _ _ (by show w.heap.size < _; rw [alloc_size]; omega))).trans ?_
      rw [cell_of_row _ _ i _ _ _ (heap_alloc_new w _), Array.getElem?_append_left (by simpa using hi)]
      simp [hi]
    exact h1 _
section
variable (E : Env)
/-- A Replacer's cells at its beginning. -/
def rpC (l : List ByteArray) : List DD := [.v (.int .u32 0), .v (.int .i32 0), .v (.int .u32 0), .v .nilIface, encStrs l]
set_option maxRecDepth 100000 in
theorem replace_sp (l : List ByteArray) (n : Nat) (hn : l.length = 2 * n) (hp : Prs (pr l) n) (h1 : all1 (pr l) n = false) (s : ByteArray) (hs : s.size ≤ 17179869184) :
    SpH (cx Tryz.prog mixed tyT_ok E) 33 [.ptr 2000 0, dS s] [(2000, .cells (rpC l))] (dS (repS l s)) [] := by
  have hn2 : l.length / 2 = n := by omega
  have h2n := hp.n2
  refine ⟨⟨_, _, Tryz.func33, by kernel_rfl, rfl⟩, fun M β w vs hG hMG hM hlv hr hH hb => ?_⟩
  have m0 : ((2000, .cells (rpC l)) : Nat × Ob RC) ∈ [(2000, (.cells (rpC l) : Ob RC))] := List.mem_cons_self
  obtain ⟨b, c, arr, T, hβ, hA, hR, hV⟩ := (hH.ob 2000 _ m0).2
  have e0 : vs.getD 0 undef = .pointer (some ⟨b, 0, none⟩) := by
    have := hr 0 _ rfl
    generalize vs.getD 0 undef = v at this
    cases this with
    | ptr h => rw [hβ] at h; injection h with h; injection h with h; injection h with h _; subst h; rfl
  have e1 := (hr 1 _ rfl).val.1
  have evs : vs = #[.pointer (some ⟨b, 0, none⟩), .string s] := by
    have hl : vs.size = 2 := hlv
    apply Array.ext
    · simpa using hl
    · intro k q1 q2
      have hk : k < 2 := by omega
      match k, hk with
      | 0, _ => simpa [Array.getD, q1] using e0
      | 1, _ => simpa [Array.getD, q1] using e1
  have a0 := (hR.r 0 _ rfl).val.1
  have a1 := (hR.r 1 _ rfl).val.1
  have a4 := hR.r 4 _ rfl
  have hsz : arr.size = 5 := hR.n
  have hrow : w.rowIs b T 5 (fun k => arr.getD k undef) := ⟨arr, hA, hsz, fun k hk => by
    have hk' : k < arr.size := by omega
    simp [Array.getD, hk']⟩
  unfold encStrs at a4
  generalize hv4 : arr.getD 4 undef = v4 at a4
  generalize hll : l.length = ll at a4
  cases a4 with
  | nil hc hA => omega
  | @sl _ _ _ _ cq q o _ u hc hm hby hu hrr =>
    have hN : New (pr l) n b q o cq w := by
      refine ⟨⟨T, _, hrow, a0, a1, ?_⟩, fun i hi => ?_, fun e => ?_⟩
      · show arr.getD 4 undef = _
        rw [hv4, ← hn, hll]
      · have h3 := (hu i 0 (by omega) (by omega)).2.1
        have h4 := (hrr i 0 (by omega) (by omega)).val.1
        rw [h4] at h3
        simpa [pr] using h3
      · have := (hu 0 0 (by omega) (by omega)).1
        rw [e] at this
        exact hV _ this
    have hblk : blocks β [(2000, (.cells (rpC l) : Ob RC))] b := ⟨2000, _, c, m0, hβ⟩
    rw [evs]
    refine (replacer_str (pr l) n hp h1 b q o cq w hN s hs).mono ?_
    rintro e w' ⟨rfl, ho, ht, hou, hsz', hbl⟩
    have hrs := repS_size (l := l) (by rw [hn2]; exact hp) s
    have hrep : repS l s = ⟨(outB (pr l) n s.data.toList).toArray⟩ := by unfold repS; rw [hn2]
    refine ⟨_, M, β, rfl, ⟨ho, ht, hou, hsz', fun k hk hs => hbl k hk (fun h => hs (h ▸ hblk))⟩, fun _ _ _ => rfl, fun _ _ h => h, fun _ _ h => .inl h, ?_, ⟨fun l o hm => (by cases hm), fun l o l' o' b c c' hm => (by cases hm)⟩, fun b ⟨l, o, c, hm, _⟩ => (by cases hm)⟩
    rw [hrep] at hrs ⊢
    exact .v (decide_eq_true (by unfold maxLen; omega))
set_option maxRecDepth 100000 in
theorem newReplacer_sp (l : List ByteArray) (n : Nat) (hn : l.length = 2 * n) (h0 : 0 < n) (hb : n ≤ 1000) :
    SpH (cx Tryz.prog mixed tyT_ok E) 32 [encStrs l] [] (.ptr 2000 0) [(2000, .cells (rpC l))] := by
  refine ⟨⟨_, _, Tryz.func32, by kernel_rfl, rfl⟩, fun M β w vs hG hMG hM hlv hr hH hbk => ?_⟩
  have a0 := hr 0 _ rfl
  unfold encStrs at a0
  generalize hv4 : vs.getD 0 undef = v4 at a0
  generalize hll : l.length = ll at a0
  have evs : vs = #[v4] := by
    have hl : vs.size = 1 := hlv
    apply Array.ext
    · simpa using hl
    · intro k q1 q2
      have hk : k < 1 := by omega
      match k, hk with
      | 0, _ => simpa [Array.getD, q1] using hv4
  cases a0 with
  | nil hc hA => omega
  | @sl _ _ _ _ cq q o _ u hc hm hby hu hrr =>
    rw [evs]
    have hst : ∀ i, i < ll → w.cell? ⟨q, o + i, none⟩ = some (.string (pr l i)) := fun i hi => by
      have h3 := (hu i 0 (by omega) (by omega)).2.1
      have h4 := (hrr i 0 (by omega) (by omega)).val.1
      rw [h4] at h3
      simpa [pr] using h3
    have hev : ll % 2 = 0 := by omega
    refine (new_raw (pr l) ll q o cq w hst (by omega) (by omega) hev).mono ?_
    rintro e w' ⟨cp, rfl, hB, h1, h2, hsz, hA, hS⟩
    have hβ' : (fun k => if k = 2000 then some (some (w.heap.size + 1, 1)) else β k : Bt) 2000 = some (some (w.heap.size + 1, 1)) := by simp
    refine ⟨_, fun b o => M b o ∨ b = w.heap.size, fun k => if k = 2000 then some (some (w.heap.size + 1, 1)) else β k, rfl, Kp.of hB _, fun l o hm => (by cases hm), fun _ _ h => .inl h, fun b o h => h.elim .inl (fun e => .inr (.inr ⟨by omega, by omega⟩)), .ptr hβ', ⟨fun l' o' hm => ?_, fun l o l' o' b c c' hm hm' _ _ => ?_⟩, fun b' ⟨l', o', c', hm, he⟩ => ?_⟩
    · obtain ⟨rfl, rfl⟩ := Prod.mk.inj (List.mem_singleton.1 hm)
      refine ⟨rfl, _, _, _, _, hβ', hA, ⟨rfl, fun i hi => ?_, fun i d hd => ?_⟩, fun q h => ?_⟩
      · match i, hi with
        | 0, _ => rfl
        | 1, _ => rfl
        | 2, _ => rfl
        | 3, _ => rfl
        | 4, _ => rfl
      · match i, hd with
        | 0, hd => injection hd with hd; subst hd; exact .v rfl
        | 1, hd => injection hd with hd; subst hd; exact .v rfl
        | 2, hd => injection hd with hd; subst hd; exact .v rfl
        | 3, hd => injection hd with hd; subst hd; exact .v rfl
        | 4, hd =>
          injection hd with hd
          subst hd
          unfold encStrs
          rw [hll]
          refine .sl (fun i _ => .string (pr l i)) h1 h2 (by omega) (fun i j hi hj => ?_) (fun i j hi hj => ?_)
          · obtain rfl : j = 0 := by omega
            refine ⟨.inr rfl, ?_, rfl⟩
            simpa using hS i hi
          · obtain rfl : j = 0 := by omega
            have h4 := hrr i 0 hi (by omega)
            obtain ⟨h5, h6⟩ := h4.val
            exact .v h6
      · rcases h with h | h
        · have := hM _ _ h; omega
        · omega
    · rw [(Prod.mk.inj (List.mem_singleton.1 hm)).1, (Prod.mk.inj (List.mem_singleton.1 hm')).1]
    · obtain ⟨rfl, rfl⟩ := Prod.mk.inj (List.mem_singleton.1 hm)
      rw [hβ'] at he
      injection he with he
      injection he with he
      injection he with he _
      exact .inr (by omega)
end
end Go.Proofs.YtiaibkbflmamgaaGreatDoor.rp
