/-
  NewReplacer of a row of the caller's own; Replace under any label. strings.Replacer at pairs of single bytes: the first call, and over data.
-/
import Derived.Test.YtiaibkbflmamgaaGreatDoorRp5
import Derived.Test.YtiaibkbflmamgaaGreatDoorRp7
namespace Go.Proofs.YtiaibkbflmamgaaGreatDoor.rp
open Go.RowKit
set_option linter.unusedVariables false
set_option linter.unusedSimpArgs false
theorem rep_own1 {κ : Type} {X : Cx κ} {M : Nat → Nat → Prop} {β : Bt} {w : World} {l s n b c : Nat} {x : Value} (h : Rep X.V M w β (.own l s 0 n) x) (hβ : β l = some (some (b, c))) : x = .slice (some ⟨b, 0, none⟩) n c := by
  generalize hN : n = m at h
  cases h with
  | own h _ _ =>
    rw [hβ] at h
    injection h with h
    injection h with h
    injection h with h1 h2
    subst h1 h2
    simp
  | ownE ho _ _ => exact absurd ho (Nat.lt_irrefl _)
  | ownNil h => rw [hβ] at h; cases h
section
variable (E : Env)
/-- A row of strings as it is written down. -/
def rowL (l : List ByteArray) (i j : Nat) : DD := (l.map (fun s => (dS s : DD))).getD (i * 1 + j) .opq
theorem rowL_at {l : List ByteArray} {i : Nat} (hi : i < l.length) : rowL l i 0 = dS (pr l i) := by
  unfold rowL pr
  rw [Nat.mul_one, Nat.add_zero, List.getD_eq_getElem?_getD, List.getElem?_map, List.getD_eq_getElem?_getD, List.getElem?_eq_getElem hi]
  rfl
set_option maxRecDepth 100000 in
theorem newRow_sp (l : List ByteArray) (n : Nat) (hn : l.length = 2 * n) (h0 : 0 < n) (hb : n ≤ 1000) :
    SpH (cx Tryz.prog mixed tyT_ok E) 32 [.own 2001 1 0 (2 * n)] [(2001, .row 9 (2 * n) (rowL l))] (.ptr 2000 0) [(2000, .cells (rpC l))] := by
  refine ⟨⟨_, _, Tryz.func32, by kernel_rfl, rfl⟩, fun M β w vs hG hMG hM hlv hr hH hbk => ?_⟩
  have m0 : ((2001, .row 9 (2 * n) (rowL l)) : Nat × Ob RC) ∈ [(2001, (.row 9 (2 * n) (rowL l) : Ob RC))] := List.mem_cons_self
  obtain ⟨_, ho⟩ := (hH.ob 2001 _ m0).2
  have a0 := hr 0 _ rfl
  rcases ho with ⟨hβ, hz⟩ | ⟨b, c, arr, hβ, hA, hsz, hnc, hcm, hby, hcell, hvis⟩
  · omega
  have hs1 : (tyT 9).size = 1 := by kernel_rfl
  have hsz : arr.size = c * (tyT 9).size := hsz
  have hcell : ∀ i j, i < 2 * n → j < (tyT 9).size → (arr.getD (i * (tyT 9).size + j) undef).oneCell' = true ∧ Rep view M w b0 (rowL l i j) (arr.getD (i * (tyT 9).size + j) undef) := hcell
  rw [hs1] at hsz hcell
  have e0 : vs.getD 0 undef = .slice (some ⟨b, 0, none⟩) (2 * n) c := rep_own1 a0 hβ
  have evs : vs = #[.slice (some ⟨b, 0, none⟩) (2 * n) c] := by
    have hl : vs.size = 1 := hlv
    apply Array.ext
    · simpa using hl
    · intro k q1 q2
      have hk : k < 1 := by omega
      match k, hk with
      | 0, _ => simpa [Array.getD, q1] using e0
  rw [evs]
  have hval : ∀ i, i < 2 * n → arr.getD i undef = .string (pr l i) ∧ okB (.string (pr l i)) = true := fun i hi => by
    have h4 := (hcell i 0 hi (by omega)).2
    rw [rowL_at (by omega), Nat.mul_one, Nat.add_zero] at h4
    exact h4.val
  have hst : ∀ i, i < 2 * n → w.cell? ⟨b, 0 + i, none⟩ = some (.string (pr l i)) := fun i hi => by
    have hlt : i < arr.size := by omega
    rw [Nat.zero_add, cell_of_row _ _ _ _ _ _ hA, ← (hval i hi).1]
    simp [Array.getD, hlt]
  refine (new_raw (pr l) (2 * n) b 0 c w hst (by omega) (by omega) (by omega)).mono ?_
  rintro e w' ⟨cp, rfl, hB, h1, h2, hsz', hA', hS⟩
  have hβ' : (fun k => if k = 2000 then some (some (w.heap.size + 1, 1)) else β k : Bt) 2000 = some (some (w.heap.size + 1, 1)) := by simp
  refine ⟨_, fun b o => M b o ∨ b = w.heap.size, fun k => if k = 2000 then some (some (w.heap.size + 1, 1)) else β k, rfl, Kp.of hB _, fun l' o' hm => ?_, fun _ _ h => .inl h, fun b o h => h.elim .inl (fun e => .inr (.inr ⟨by omega, by omega⟩)), .ptr hβ', ⟨fun l' o' hm => ?_, fun l o l' o' b c c' hm hm' _ _ => ?_⟩, fun b' ⟨l', o', c', hm, he⟩ => ?_⟩
  · rw [(Prod.mk.inj (List.mem_singleton.1 hm)).1]
    simp
  · obtain ⟨rfl, rfl⟩ := Prod.mk.inj (List.mem_singleton.1 hm)
    refine ⟨rfl, _, _, _, _, hβ', hA', ⟨rfl, fun i hi => ?_, fun i d hd => ?_⟩, fun q h => ?_⟩
    · match i, hi with
      | 0, _ => rfl
      | 1, _ => rfl
      | 2, _ => rfl
      | 3, _ => rfl
      | 4, _ => rfl
    · match i, hd with
      | 0, hd => injection hd with hd; subst hd; exact .v rfl
      | 1, hd => injection hd with hd; subst hd; exact .v rfl
      | 2, hd => injection hd with hd; subst hd; exact .v rfl
      | 3, hd => injection hd with hd; subst hd; exact .v rfl
      | 4, hd =>
        injection hd with hd
        subst hd
        unfold encStrs
        rw [hn]
        refine .sl (fun i _ => .string (pr l i)) h1 h2 (by omega) (fun i j hi hj => ?_) (fun i j hi hj => ?_)
        · obtain rfl : j = 0 := by omega
          refine ⟨.inr rfl, ?_, rfl⟩
          simpa using hS i hi
        · obtain rfl : j = 0 := by omega
          exact .v (hval i hi).2
    · rcases h with h | h
      · have := hM _ _ h; omega
      · omega
  · rw [(Prod.mk.inj (List.mem_singleton.1 hm)).1, (Prod.mk.inj (List.mem_singleton.1 hm')).1]
  · obtain ⟨rfl, rfl⟩ := Prod.mk.inj (List.mem_singleton.1 hm)
    rw [hβ'] at he
    injection he with he
    injection he with he
    injection he with he _
    exact .inr (by omega)
end
end Go.Proofs.YtiaibkbflmamgaaGreatDoor.rp
namespace Go.Proofs.YtiaibkbflmamgaaGreatDoor.rp
open Go.RowKit
set_option linter.unusedVariables false
set_option linter.unusedSimpArgs false
theorem Tc.mono {P : Nat → ByteArray} {n j B : Nat} {g : Nat → UInt8} {w w' : World} (h : Tc P n j B g w) (hk : w'.heap[B]? = w.heap[B]?) : Tc P n j B g w' :=
  ⟨h.row.of_block hk, h.on, h.off⟩
/-- What the building leaves. -/
def BuiltB (P : Nat → ByteArray) (n b B : Nat) (w w' : World) : Prop :=
  (∃ T g, w'.rowIs b T 5 g ∧ g 0 = .int .u32 0 ∧ g 1 = .int .i32 1 ∧ g 3 = .iface 295 (.pointer (some ⟨B, 0, none⟩))) ∧ (∃ g, Tc P n n B g w') ∧
  w'.os = w.os ∧ w'.tape = w.tape ∧ w'.output = w.output ∧ w.heap.size ≤ w'.heap.size ∧ ∀ k, k < w.heap.size → k ≠ b → w'.heap[k]? = w.heap[k]?
set_option maxRecDepth 100000 in
set_option maxHeartbeats 1600000 in
theorem buildOnce_byt (P : Nat → ByteArray) (n : Nat) (hp : Pbs P n) (b q o c : Nat) (w : World) (T : TypeId) (g : Nat → Value) (hR : w.rowIs b T 5 g) (g0 : g 0 = .int .u32 0) (g1 : g 1 = .int .i32 1) (g4 : g 4 = .slice (some ⟨q, o, none⟩) (2 * n : Nat) c)
    (hP : ∀ i, i < 2 * n → w.cell? ⟨q, o + i, none⟩ = some (.string (P i))) :
    Calls Tryz.prog 72 #[.pointer (some ⟨b, 0, none⟩)] w fun e w' => e = .returned (.tuple #[]) ∧ BuiltB P n b w.heap.size w w' := by
  have hc : w.cell? ⟨b, 4, none⟩ = some (.slice (some ⟨q, o, none⟩) (2 * n : Nat) c) := by rw [hR.cell (by omega), g4]
  have hlt := hR.lt
  go_enter Tryz.func72, Tryz.ntmps72
  go_wp2_with (go_at_call 137; refine (build_byt P n hp b q o c w hc hP).mono ?_; rintro e w1 ⟨rfl, hB, gt, hT⟩; have hR1 := hR.of_block (hB.block b hlt); have c3 := hR1.cell (i := 3) (by omega); have z3 := hR1.frozen 3; have hR2 := hR1.set 3 (.iface 295 (.pointer (some ⟨w.heap.size, 0, none⟩))); have c4 := hR2.cell (i := 4) (by omega); have z4 := hR2.frozen 4)
  go_end0
  refine ⟨rfl, ⟨T, _, hR2.set 4 _, by rw [if_neg (by omega), if_neg (by omega)]; exact g0, by rw [if_neg (by omega), if_neg (by omega)]; exact g1, by rw [if_neg (by omega)]; exact if_pos rfl⟩, ⟨gt, hT.mono ?_⟩, hB.os, hB.tape, hB.output, by rw [set_size, set_size]; exact hB.size, fun k hk hne => ?_⟩
  · rw [Go.Deep.blk_setCell_other _ _ _ _ (by show w.heap.size ≠ b; omega), Go.Deep.blk_setCell_other _ _ _ _ (by show w.heap.size ≠ b; omega)]
  · rw [Go.Deep.blk_setCell_other _ _ _ _ hne, Go.Deep.blk_setCell_other _ _ _ _ hne, hB.block k hk]
set_option maxRecDepth 100000 in
set_option maxHeartbeats 1600000 in
theorem replacer_byt (P : Nat → ByteArray) (n : Nat) (hp : Pbs P n) (b q o c : Nat) (w : World) (hN : New P n b q o c w) (s : ByteArray) (hs : s.size ≤ 281474976710656) :
    Calls Tryz.prog 33 #[.pointer (some ⟨b, 0, none⟩), .string s] w fun e w' => e = .returned (.string ⟨(outB P n s.data.toList).toArray⟩) ∧ w'.os = w.os ∧ w'.tape = w.tape ∧ w'.output = w.output ∧ w.heap.size ≤ w'.heap.size ∧ ∀ k, k < w.heap.size → k ≠ b → w'.heap[k]? = w.heap[k]? := by
  obtain ⟨⟨T, g, hR, g0, g1, g4⟩, hP, hq⟩ := hN
  have hlt := hR.lt
  have hR1 := hR.set 1 (.int .i32 1)
  have hbo := buildOnce_byt P n hp b q o c (w.setCell ⟨b, 1, none⟩ (.int .i32 1)) T _ hR1 (by rw [if_neg (by omega)]; exact g0) (by exact if_pos rfl) (by rw [if_neg (by omega)]; exact g4)
    (fun i hi => (World.cell?_setCell_other _ _ _ _ (by intro e; have := congrArg Addr.block e; simp at this; exact hq this.symm)).trans (hP i hi))
  rw [set_size] at hbo
  have hdo := do_first 72 b 0 (.pointer (some ⟨b, 0, none⟩)) (BuiltB P n b w.heap.size (w.setCell ⟨b, 1, none⟩ (.int .i32 1))) w (by rw [hR.cell (by omega), g0]) (by rw [hR.cell (by omega), g1]) (hR.frozen 0) (hR.frozen 1)
    (hbo.mono fun e w' ⟨he, hb⟩ => by
      obtain ⟨⟨T', g', q1, q2, q3, q4⟩, _⟩ := id hb
      exact ⟨he, ⟨by rw [q1.cell (by omega), q2], by rw [q1.cell (by omega), q3], q1.frozen 0, q1.frozen 1⟩, hb⟩)
    (fun w => enters_of Tryz.func72 (by kernel_rfl) rfl _ w)
  have hdo2 : Calls Tryz.prog 71 #[.pointer (some ⟨b, 0, none⟩), .func (.func 72) #[.pointer (some ⟨b, 0, none⟩)] #[]] w fun e w2 => e = .returned (.tuple #[]) ∧ w2.cell? ⟨b, 3, none⟩ = some (.iface 295 (.pointer (some ⟨w.heap.size, 0, none⟩))) ∧
      (∃ gt, Tc P n n w.heap.size gt w2) ∧ w2.os = w.os ∧ w2.tape = w.tape ∧ w2.output = w.output ∧ w.heap.size ≤ w2.heap.size ∧ ∀ k, k < w.heap.size → k ≠ b → w2.heap[k]? = w.heap[k]? := by
    refine hdo.mono ?_
    rintro e w2 ⟨rfl, w1, ⟨⟨T', g', q1, q2, q3, q4⟩, ⟨gt, hT⟩, ho, ht, hou, hsz, hblk⟩, rfl⟩
    have hR2 := (q1.drew.set 0 (.int .u32 1)).set 1 (.int .i32 0)
    have c3 := hR2.cell (i := 3) (by omega)
    simp only [show ¬ ((3 : Nat) = 1) by omega, show ¬ ((3 : Nat) = 0) by omega, if_false, q4] at c3
    rw [set_size] at hsz
    refine ⟨rfl, c3, ⟨gt, hT.mono ?_⟩, ho, ht, hou, by rw [set_size, set_size]; exact hsz, fun k hk hne => ?_⟩
    · rw [Go.Deep.blk_setCell_other _ _ _ _ (by show w.heap.size ≠ b; omega), Go.Deep.blk_setCell_other _ _ _ _ (by show w.heap.size ≠ b; omega)]
      rfl
    · rw [Go.Deep.blk_setCell_other _ _ _ _ hne, Go.Deep.blk_setCell_other _ _ _ _ hne]
      have := hblk k (by rw [set_size]; exact hk) hne
      rw [Go.Deep.blk_setCell_other _ _ _ _ hne] at this
      exact this
  have hmf : ∀ (fn : Fn) (first cap : Array Value) (w : World), (Instr.makeFunc fn first cap).run Tryz.prog w = .ok (.func fn first cap) w := fun _ _ _ _ => rfl
  clear hdo hbo hR1
  go_enter Tryz.func33, Tryz.ntmps33
  go_wp2_with (first | (go_at_call 71; refine hdo2.mono ?_; rintro e w2 ⟨rfl, c3, ⟨gt, hT⟩, ho, ht, hou, hsz, hblk⟩) | (go_at_call 289; refine (replace_byt P n w.heap.size gt w2 hp hT s hs).mono ?_; rintro e w3 ⟨rfl, hB⟩))
  go_ret
  exact ⟨rfl, hB.os.trans ho, hB.tape.trans ht, hB.output.trans hou, Nat.le_trans hsz hB.size, fun k hk hne => (hB.block k (by omega)).trans (hblk k hk hne)⟩
section
variable (E : Env)
set_option maxRecDepth 100000 in
theorem replaceB_sp (l : List ByteArray) (n : Nat) (hn : l.length = 2 * n) (hp : Pbs (pr l) n) (s : ByteArray) (hs : s.size ≤ 140737488351232) :
    SpH (cx Tryz.prog mixed tyT_ok E) 33 [.ptr 2000 0, dS s] [(2000, .cells (rpC l))] (dS (repS l s)) [] := by
  have hn2 : l.length / 2 = n := by omega
  have h2n := hp.n2
  refine ⟨⟨_, _, Tryz.func33, by kernel_rfl, rfl⟩, fun M β w vs hG hMG hM hlv hr hH hb => ?_⟩
  have m0 : ((2000, .cells (rpC l)) : Nat × Ob RC) ∈ [(2000, (.cells (rpC l) : Ob RC))] := List.mem_cons_self
  obtain ⟨b, c, arr, T, hβ, hA, hR, hV⟩ := (hH.ob 2000 _ m0).2
  have e0 : vs.getD 0 undef = .pointer (some ⟨b, 0, none⟩) := by
    have := hr 0 _ rfl
    generalize vs.getD 0 undef = v at this
    cases this with
    | ptr h => rw [hβ] at h; injection h with h; injection h with h; injection h with h _; subst h; rfl
  have e1 := (hr 1 _ rfl).val.1
  have evs : vs = #[.pointer (some ⟨b, 0, none⟩), .string s] := by
    have hl : vs.size = 2 := hlv
    apply Array.ext
    · simpa using hl
    · intro k q1 q2
      have hk : k < 2 := by omega
      match k, hk with
      | 0, _ => simpa [Array.getD, q1] using e0
      | 1, _ => simpa [Array.getD, q1] using e1
  have a0 := (hR.r 0 _ rfl).val.1
  have a1 := (hR.r 1 _ rfl).val.1
  have a4 := hR.r 4 _ rfl
  have hsz : arr.size = 5 := hR.n
  have hrow : w.rowIs b T 5 (fun k => arr.getD k undef) := ⟨arr, hA, hsz, fun k hk => by
    have hk' : k < arr.size := by omega
    simp [Array.getD, hk']⟩
  unfold encStrs at a4
  generalize hv4 : arr.getD 4 undef = v4 at a4
  generalize hll : l.length = ll at a4
  cases a4 with
  | nil hc hA => omega
  | @sl _ _ _ _ cq q o _ u hc hm hby hu hrr =>
    have hN : New (pr l) n b q o cq w := by
      refine ⟨⟨T, _, hrow, a0, a1, ?_⟩, fun i hi => ?_, fun e => ?_⟩
      · show arr.getD 4 undef = _
        rw [hv4, ← hn, hll]
      · have h3 := (hu i 0 (by omega) (by omega)).2.1
        have h4 := (hrr i 0 (by omega) (by omega)).val.1
        rw [h4] at h3
        simpa [pr] using h3
      · have := (hu 0 0 (by omega) (by omega)).1
        rw [e] at this
        exact hV _ this
    have hblk : blocks β [(2000, (.cells (rpC l) : Ob RC))] b := ⟨2000, _, c, m0, hβ⟩
    rw [evs]
    refine (replacer_byt (pr l) n hp b q o cq w hN s (by omega)).mono ?_
    rintro e w' ⟨rfl, ho, ht, hou, hsz', hbl⟩
    have hrs := repS_size (l := l) (by rw [hn2]; exact hp.prs) s
    have hrep : repS l s = ⟨(outB (pr l) n s.data.toList).toArray⟩ := by unfold repS; rw [hn2]
    refine ⟨_, M, β, rfl, ⟨ho, ht, hou, hsz', fun k hk hs => hbl k hk (fun h => hs (h ▸ hblk))⟩, fun _ _ _ => rfl, fun _ _ h => h, fun _ _ h => .inl h, ?_, ⟨fun l o hm => (by cases hm), fun l o l' o' b c c' hm => (by cases hm)⟩, fun b ⟨l, o, c, hm, _⟩ => (by cases hm)⟩
    rw [hrep] at hrs ⊢
    exact .v (decide_eq_true (by unfold maxLen; omega))
end
end Go.Proofs.YtiaibkbflmamgaaGreatDoor.rp
