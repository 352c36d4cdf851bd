/-
  asset.Digest$1, raw: a step of the digest. asset.Digest$1 as a contract with its box lent.
-/
import Derived.Test.YteojgenhgjhohaaDoorFb0
import Derived.Laws.BitsAllLaws
import Derived.ProofKit
import Derived.WalkKit
import Derived.WalkLawsBesides
import Derived.Laws.Externs
import Derived.Laws.IdiomCopy
import Derived.Laws.NewBlocks
import Derived.Test.YteojgenhgjhohaaDoorQ8
import Derived.Test.YteojgenhgjhohaaDoorN18
namespace Go.Proofs.YteojgenhgjhohaaDoor.dg
open Go.RowKit
set_option linter.unusedVariables false
set_option linter.unusedSimpArgs false
theorem copy_run {P : Program} (w : World) (dT sT ty elem : TypeId) (b o dLen dCap : Nat) (a : Addr) (sLen sCap : Nat) (cs : List Value)
    (hu : P.underlying dT = some (.slice elem)) (hs : (P.info? elem).map (·.size) = some 1) (hn : cs.length = Nat.min sLen dLen * 1)
    (hsrc : ∀ j v, cs[j]? = some v → w.cell? (a.add j) = some v) (hc : ∀ j, j < cs.length → (w.cell? ⟨b, o + j, none⟩).isSome = true) (hf : ∀ j, j < cs.length → w.frozen? ⟨b, o + j, none⟩ = false) (h1 : ∀ v ∈ cs, v.oneCell' = true) :
    (Builtin.copy_ #[dT, sT] ty #[.slice (some ⟨b, o, none⟩) dLen dCap, .slice (some a) sLen sCap]).run P w = .ok (goInt (Nat.min sLen dLen)) (w.setCells b o cs) := by
  have hl := run_loadCells_list (P := P) w a cs hsrc
  have hst := run_storeCells_cells (P := P) b o cs 0 w (by simpa using hc) (by simpa using hf) h1
  cases hq : P.info? elem with
  | none => simp [hq] at hs
  | some i =>
    have hi : i.size = 1 := by simpa [hq] using hs
    simp [Builtin.copy_, run_underlying hu, Builtin.lenOf, Builtin.firstCells, sizeOf, typeInfo, hq, hi, ← hn, hl, hst]
def sp (p x : Int) : Int := (p + x) % 4294967296 * 16777619 % 4294967296
def sq (p q x : Int) : Int := (q + (p + x) % 4294967296 * 16777619) % 4294967296 * 2654435761 % 4294967296
def sr (p q r x : Int) : Int := (bits BinOp.xor IntKind.u32 r (sq p q x) + 374761393) % 4294967296
def ss (p q r s x : Int) : Int := (s + 9 * sr p q r x + x) % 4294967296
set_option maxRecDepth 1000000 in
set_option maxHeartbeats 4000000 in
theorem dig_raw (w : World) (b T : Nat) (p q r s x : Int) (h : w.heap[b]? = some (.cells #[.int .u32 p, .int .u32 q, .int .u32 r, .int .u32 s] T (0, 0))) :
    Calls Tryd.prog 23 #[.int .u32 x, .pointer (some ⟨b, 0, none⟩)] w fun e w' => e = .returned (.tuple #[]) ∧
      w' = ((w.alloc (.cells #[.int .u32 (sq p q x), .int .u32 (sr p q r x), .int .u32 (ss p q r s x), .int .u32 (sp p x)] 41)).drew.drew).setCells b 0 [.int .u32 (sq p q x), .int .u32 (sr p q r x), .int .u32 (ss p q r s x), .int .u32 (sp p x)] := by
  have c0 : w.cell? ⟨b, 0, none⟩ = some (.int .u32 p) := by rw [cell_of_row _ _ _ _ _ _ h]; rfl
  have c1 : w.cell? ⟨b, 1, none⟩ = some (.int .u32 q) := by rw [cell_of_row _ _ _ _ _ _ h]; rfl
  have c2 : w.cell? ⟨b, 2, none⟩ = some (.int .u32 r) := by rw [cell_of_row _ _ _ _ _ _ h]; rfl
  have c3 : w.cell? ⟨b, 3, none⟩ = some (.int .u32 s) := by rw [cell_of_row _ _ _ _ _ _ h]; rfl
  have hbw : b < w.heap.size := World.block_lt_of_cell? w ⟨b, 0, none⟩ c0
  have hfz : ∀ k, w.frozen? ⟨b, k, none⟩ = false := fun k => by simp [World.frozen?, h]
  obtain ⟨pv, e1⟩ : ∃ v, v = sp p x := ⟨_, rfl⟩
  obtain ⟨qv, e2⟩ : ∃ v, v = sq p q x := ⟨_, rfl⟩
  obtain ⟨rv, e3⟩ : ∃ v, v = sr p q r x := ⟨_, rfl⟩
  obtain ⟨sv, e4⟩ : ∃ v, v = ss p q r s x := ⟨_, rfl⟩
  rw [← e1, ← e2, ← e3, ← e4]
  unfold ss at e4
  rw [← e3] at e4
  unfold sr at e3
  rw [← e2] at e3
  unfold sp at e1
  unfold sq at e2
  obtain ⟨W1, hW1⟩ : ∃ W1, W1 = (w.alloc (.cells #[.int .u32 qv, .int .u32 rv, .int .u32 sv, .int .u32 pv] 41)).drew := ⟨_, rfl⟩
  rw [← hW1]
  have hn : W1.heap[w.heap.size]? = some (.cells #[.int .u32 qv, .int .u32 rv, .int .u32 sv, .int .u32 pv] 41 (0, 0)) := by
    rw [hW1]
    exact Array.getElem?_push_size
  have ho : W1.heap[b]? = some (.cells #[.int .u32 p, .int .u32 q, .int .u32 r, .int .u32 s] T (0, 0)) := by
    rw [hW1, ← h]
    show (w.heap.push _)[b]? = w.heap[b]?
    rw [Array.getElem?_push, if_neg (by omega)]
  have t41 : (Tryd.prog.info? 40).map (·.size) = some 1 := by kernel_rfl
  have hcp : ∀ ty, (Builtin.copy_ #[42, 42] ty #[.slice (some ⟨b, 0, none⟩) 4 4, .slice (some ⟨w.heap.size, 0, none⟩) 4 4]).run Tryd.prog W1.drew = .ok (goInt 4) (W1.drew.setCells b 0 [.int .u32 qv, .int .u32 rv, .int .u32 sv, .int .u32 pv]) := fun ty =>
    copy_run W1.drew _ _ ty 40 b 0 4 4 ⟨w.heap.size, 0, none⟩ 4 4 _ Tryd.underlying42 t41 rfl
      (fun j v hj => by
        have hj4 : j < 4 := (List.getElem?_eq_some_iff.1 hj).1
        have : W1.drew.heap[w.heap.size]? = _ := hn
        rw [Addr.add_lit, Nat.zero_add, cell_of_row _ _ _ _ _ _ this]
        match j, hj4 with
        | 0, _ => exact hj
        | 1, _ => exact hj
        | 2, _ => exact hj
        | 3, _ => exact hj)
      (fun j hj => by
        have hj4 : j < 4 := hj
        have : W1.drew.heap[b]? = _ := ho
        rw [Nat.zero_add, cell_of_row _ _ _ _ _ _ this]
        match j, hj4 with
        | 0, _ => rfl
        | 1, _ => rfl
        | 2, _ => rfl
        | 3, _ => rfl)
      (fun j hj => by
        have : W1.drew.heap[b]? = _ := ho
        simp [World.frozen?, this])
      (fun v hv => by
        simp only [List.mem_cons, List.not_mem_nil, or_false] at hv
        rcases hv with rfl | rfl | rfl | rfl <;> rfl)
  go_enter Tryd.func23, Tryd.ntmps23
  go_wp2
  go_region
  go_wp2
  rw [← e1, ← e2, ← e3, ← e4, ← hW1]
  have hcp1 := hcp 3
  have hW : Hid (W1 = (w.alloc (.cells #[.int .u32 qv, .int .u32 rv, .int .u32 sv, .int .u32 pv] 41)).drew) := hW1
  clear hW1 hcp c0 c1 c2 c3 h e1 e2 e3 e4
  go_region
  go_end0
  exact ⟨rfl, rfl⟩
end Go.Proofs.YteojgenhgjhohaaDoor.dg
namespace Go.Proofs.YteojgenhgjhohaaDoor.dg
open Go.RowKit
set_option linter.unusedVariables false
set_option linter.unusedSimpArgs false
abbrev u4 (n : Int) : DD := .v (.int .u32 n)
abbrev q4 (p q r s : Int) : List DD := [u4 p, u4 q, u4 r, u4 s]
section
variable (E : Env)
theorem size_setCells (b : Nat) : ∀ (vs : List Value) (o : Nat) (w : World), (w.setCells b o vs).heap.size = w.heap.size
  | [], _, _ => rfl
  | v :: vs, o, w => (size_setCells b vs (o + 1) _).trans (by simp [World.setCell])
theorem tape_setCells (b : Nat) : ∀ (vs : List Value) (o : Nat) (w : World), (w.setCells b o vs).tape = w.tape
  | [], _, _ => rfl
  | v :: vs, o, w => (tape_setCells b vs (o + 1) _).trans (by rfl)
theorem os_setCells (b : Nat) : ∀ (vs : List Value) (o : Nat) (w : World), (w.setCells b o vs).os = w.os
  | [], _, _ => rfl
  | v :: vs, o, w => (os_setCells b vs (o + 1) _).trans (by rfl)
theorem output_setCells (b : Nat) : ∀ (vs : List Value) (o : Nat) (w : World), (w.setCells b o vs).output = w.output
  | [], _, _ => rfl
  | v :: vs, o, w => (output_setCells b vs (o + 1) _).trans (by rfl)
theorem heap_setCells_ne {b k : Nat} (hne : k ≠ b) : ∀ (vs : List Value) (o : Nat) (w : World), (w.setCells b o vs).heap[k]? = w.heap[k]?
  | [], _, _ => rfl
  | v :: vs, o, w => (heap_setCells_ne hne vs (o + 1) _).trans (by
    show (w.heap.modify b _)[k]? = _
    rw [Array.getElem?_modify, if_neg (fun e => hne e.symm)])
set_option maxRecDepth 100000 in
theorem take_l (L : Nat) (p q r s x : Int) : SpH (cx Tryd.prog mixed tyT_ok E) 23 [u4 x, .ptr L 0] [(L, .cells (q4 p q r s))] (.tup []) [(L, .cells (q4 (sq p q x) (sr p q r x) (ss p q r s x) (sp p x)))] := by
  refine ⟨⟨_, _, Tryd.func23, by kernel_rfl, rfl⟩, fun M β w vs hG hMG hM hlv hr hH hbk => ?_⟩
  have m0 : ((L, .cells (q4 p q r s)) : Nat × Ob RC) ∈ [(L, (.cells (q4 p q r s) : Ob RC))] := List.mem_cons_self
  obtain ⟨b, c, arr, T, hβ, hA, ⟨hn, _, hrep⟩, hvis⟩ := (hH.ob L _ m0).2
  have ea : arr = #[.int .u32 p, .int .u32 q, .int .u32 r, .int .u32 s] := by
    have g0 := (hrep 0 _ rfl).val.1
    have g1 := (hrep 1 _ rfl).val.1
    have g2 := (hrep 2 _ rfl).val.1
    have g3 := (hrep 3 _ rfl).val.1
    have hl : arr.size = 4 := hn
    apply Array.ext
    · simpa using hl
    · intro k q1 q2
      have hk : k < 4 := by omega
      match k, hk with
      | 0, _ => simpa [Array.getD, q1] using g0
      | 1, _ => simpa [Array.getD, q1] using g1
      | 2, _ => simpa [Array.getD, q1] using g2
      | 3, _ => simpa [Array.getD, q1] using g3
  subst ea
  have evs : vs = #[.int .u32 x, .pointer (some ⟨b, 0, none⟩)] := by
    have g0 := (hr 0 _ rfl).val.1
    have g1 : vs.getD 1 undef = .pointer (some ⟨b, 0, none⟩) := by
      have g := hr 1 _ rfl
      generalize vs.getD 1 undef = z at g
      cases g with
      | ptr h =>
        rw [hβ] at h
        injection h with h
        injection h with h
        injection h with h1 h2
        rw [h1]
    have hl : vs.size = 2 := hlv
    apply Array.ext
    · simpa using hl
    · intro k q1 q2
      have hk : k < 2 := by omega
      match k, hk with
      | 0, _ => simpa [Array.getD, q1] using g0
      | 1, _ => simpa [Array.getD, q1] using g1
  subst evs
  refine (dig_raw w b T p q r s x hA).mono fun e w' ⟨he, hw⟩ => ?_
  subst he
  have c0 : w.cell? ⟨b, 0, none⟩ = some (.int .u32 p) := by rw [cell_of_row _ _ _ _ _ _ hA]; rfl
  have hbw : b < w.heap.size := World.block_lt_of_cell? w ⟨b, 0, none⟩ c0
  generalize sq p q x = q1 at *
  generalize sr p q r x = r1 at *
  generalize ss p q r s x = s1 at *
  generalize sp p x = p1 at *
  have hO : ((w.alloc (.cells #[.int .u32 q1, .int .u32 r1, .int .u32 s1, .int .u32 p1] 41)).drew.drew).heap = w.heap.push (.cells #[.int .u32 q1, .int .u32 r1, .int .u32 s1, .int .u32 p1] 41 (0, 0)) := rfl
  obtain ⟨W, hW⟩ : ∃ W, W = (w.alloc (.cells #[.int .u32 q1, .int .u32 r1, .int .u32 s1, .int .u32 p1] 41)).drew.drew := ⟨_, rfl⟩
  rw [← hW] at hw hO
  have hWo : W.os = w.os ∧ W.tape = w.tape ∧ W.output = w.output := by rw [hW]; exact ⟨rfl, rfl, rfl⟩
  have hsz : W.heap.size = w.heap.size + 1 := by rw [hO, Array.size_push]
  have hkeep : ∀ k, k < w.heap.size → W.heap[k]? = w.heap[k]? := fun k hk => by rw [hO, Array.getElem?_push, if_neg (by omega)]
  have hAW : W.heap[b]? = some (.cells #[.int .u32 p, .int .u32 q, .int .u32 r, .int .u32 s] T (0, 0)) := (hkeep b hbw).trans hA
  have hA' : w'.heap[b]? = some (.cells #[.int .u32 q1, .int .u32 r1, .int .u32 s1, .int .u32 p1] T (0, 0)) := by
    rw [hw]
    simp [World.setCells, World.setCell, Array.getElem?_modify, hAW]
  have hblk : blocks β [(L, (.cells (q4 p q r s) : Ob RC))] b := ⟨L, _, c, m0, hβ⟩
  refine ⟨_, M, β, rfl, ⟨?_, ?_, ?_, ?_, fun k hk hs => ?_⟩, fun _ _ _ => rfl, fun _ _ h => h, fun _ _ h => .inl h, .tup rfl (fun i d h => by cases h), ⟨fun l o hm => ?_, fun l o l' o' b1 c1 c2 hm hm' _ _ => ?_⟩, fun b' ⟨l', o', c', hm, he⟩ => ?_⟩
  · rw [hw, os_setCells]; exact hWo.1
  · rw [hw, tape_setCells]; exact hWo.2.1
  · rw [hw, output_setCells]; exact hWo.2.2
  · rw [hw, size_setCells]; omega
  · have hne : k ≠ b := fun e => hs (e ▸ hblk)
    rw [hw, heap_setCells_ne hne]
    exact hkeep k hk
  · obtain ⟨rfl, rfl⟩ := Prod.mk.inj (List.mem_singleton.1 hm)
    refine ⟨rfl, b, c, _, T, hβ, hA', ⟨rfl, fun i hi => ?_, fun i d hd => ?_⟩, hvis⟩
    · have hi4 : i < 4 := hi
      match i, hi4 with
      | 0, _ => rfl
      | 1, _ => rfl
      | 2, _ => rfl
      | 3, _ => rfl
    · have hi4 : i < 4 := (List.getElem?_eq_some_iff.1 hd).1
      match i, hi4 with
      | 0, _ => cases hd; exact .v rfl
      | 1, _ => cases hd; exact .v rfl
      | 2, _ => cases hd; exact .v rfl
      | 3, _ => cases hd; exact .v rfl
  · rw [(Prod.mk.inj (List.mem_singleton.1 hm)).1, (Prod.mk.inj (List.mem_singleton.1 hm')).1]
  · obtain ⟨rfl, rfl⟩ := Prod.mk.inj (List.mem_singleton.1 hm)
    exact .inl ⟨l', _, c', m0, he⟩
end
end Go.Proofs.YteojgenhgjhohaaDoor.dg
