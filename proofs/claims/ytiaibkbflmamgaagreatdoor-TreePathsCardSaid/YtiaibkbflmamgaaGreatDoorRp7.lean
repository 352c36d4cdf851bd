/-
  strings.Replacer at pairs of single bytes: build, and Replace of a byteReplacer; rows that are a conversion's.
-/
import Derived.Test.YtiaibkbflmamgaaGreatDoorRp4
namespace Go.Proofs.YtiaibkbflmamgaaGreatDoor.rp
open Go.RowKit
set_option linter.unusedVariables false
set_option linter.unusedSimpArgs false
/-- The row of a conversion of n bytes: its last mark lies behind them. -/
def BRow (w : World) (B n : Nat) (f : Nat → UInt8) : Prop := ∃ (arr : Array Value) (T : TypeId) (lo hi : Nat), w.heap[B]? = some (.cells arr T (lo, hi)) ∧ (∀ t, t < n → ¬ (lo ≤ t ∧ t < hi)) ∧ n ≤ arr.size ∧ ∀ t, t < n → arr[t]? = some (.int .u8 (f t).toNat)
namespace BRow
variable {w w' : World} {B n : Nat} {f g : Nat → UInt8}
theorem cell (h : BRow w B n f) {t : Nat} (ht : t < n) : w.cell? ⟨B, t, none⟩ = some (.int .u8 (f t).toNat) := by
  obtain ⟨arr, T, lo, hi, h1, _, _, h4⟩ := h
  simp [World.cell?, h1, h4 t ht]
theorem frozen (h : BRow w B n f) {t : Nat} (ht : t < n) : w.frozen? ⟨B, t, none⟩ = false := by
  obtain ⟨arr, T, lo, hi, h1, h2, _, _⟩ := h
  have := h2 t ht
  simp [World.frozen?, h1]
  omega
theorem lt (h : BRow w B n f) : B < w.heap.size := by
  obtain ⟨arr, T, lo, hi, h1, _⟩ := h
  exact (Array.getElem?_eq_some_iff.1 h1).1
theorem of_block (h : BRow w B n f) (e : w'.heap[B]? = w.heap[B]?) : BRow w' B n f := by
  obtain ⟨arr, T, lo, hi, h1, h2⟩ := h
  exact ⟨arr, T, lo, hi, e.trans h1, h2⟩
theorem congr (h : BRow w B n f) (e : ∀ t, t < n → f t = g t) : BRow w B n g := by
  obtain ⟨arr, T, lo, hi, h1, h2, h3, h4⟩ := h
  exact ⟨arr, T, lo, hi, h1, h2, h3, fun t ht => by rw [h4 t ht, e t ht]⟩
theorem set (h : BRow w B n f) {i : Nat} (x : UInt8) : BRow (w.setCell ⟨B, i, none⟩ (.int .u8 x.toNat)) B n (fun t => if t = i then x else f t) := by
  obtain ⟨arr, T, lo, hi, h1, h2, h3, h4⟩ := h
  refine ⟨arr.setIfInBounds i (.int .u8 x.toNat), T, lo, hi, ?_, h2, by simpa using h3, fun t ht => ?_⟩
  · simp [World.setCell, Array.getElem?_modify, h1]
  · rw [Array.getElem?_setIfInBounds]
    by_cases e : t = i
    · subst e
      simp
      omega
    · rw [if_neg (fun h => e h.symm)]
      show arr[t]? = some (.int .u8 (if t = i then x else f t).toNat)
      rw [if_neg e]
      exact h4 t ht
end BRow
theorem bytesCells_size (w : World) (e : TypeId) (s : ByteArray) : (Lib.bytesCells w e s).size = grownCap w s.size 0 e := by
  have h := grownCap_ge w s.size 0 e
  unfold Lib.bytesCells
  rw [Array.size_append, Array.size_map, Array.size_replicate]
  show s.size + _ = _
  omega
/-- A conversion makes one. -/
theorem brow_conv (w : World) (s : ByteArray) (hs : s.size ≤ maxLen) : ∃ (Q c : Nat) (w' : World), Q = w.heap.size ∧ (convert 9 46 (.string s)).run Tryz.prog w = .ok (.slice (some ⟨Q, 0, none⟩) s.size c) w' ∧ s.size ≤ c ∧ c ≤ maxLen ∧ Below w.heap.size w w' ∧ BRow w' Q s.size (fun t => bAt s t) := by
  refine ⟨_, _, _, rfl, Lib.run_convert_string_bytes w _ _ _ s Tryz.underlying9 Tryz.underlying46 Tryz.underlying5, grownCap_ge _ _ _ _, grownCap_le_maxLen _ _ _ _ hs, ⟨rfl, rfl, rfl, by rw [Lib.bytesWorld_size]; omega, fun k hk => Lib.bytesWorld_at_old w _ s k hk⟩, _, _, _, _, Lib.bytesWorld_at_new w _ s, ?_, ?_, fun t ht => ?_⟩
  · intro t ht h
    rw [bytesCells_size] at h
    have := grownCap_ge w s.size 0 5
    omega
  · rw [bytesCells_size]
    exact grownCap_ge _ _ _ _
  · have := Lib.bytesWorld_cell w 5 s t ht
    simp only [World.cell?, Lib.bytesWorld_at_new] at this
    exact this
/-- Such a row as a string. -/
theorem brow_back {w : World} {B n c : Nat} {f : Nat → UInt8} (h : BRow w B n f) : (convert 46 9 (.slice (some ⟨B, 0, none⟩) n c)).run Tryz.prog w = .ok (.string ⟨((List.range n).map f).toArray⟩) w := by
  have := run_convert_bytes_back (P := Tryz.prog) w 46 9 5 ⟨B, 0, none⟩ c ((List.range n).map f) Tryz.underlying46 Tryz.underlying5 Tryz.underlying9 (fun t ht => by
    have ht' : t < n := by simpa using ht
    rw [Addr.add_lit, Nat.zero_add, h.cell ht']
    simp)
  simpa using this
/-- Pairs of single bytes. -/
structure Pbs (P : Nat → ByteArray) (n : Nat) : Prop where
  n2 : 2 ≤ n
  n100 : n ≤ 100
  old : ∀ i, i < n → (P (2 * i)).size = 1
  new : ∀ i, i < n → (P (2 * i + 1)).size = 1
  two : ∀ i j, i < n → j < n → bAt (P (2 * i)) 0 = bAt (P (2 * j)) 0 → i = j
theorem Pbs.prs {P : Nat → ByteArray} {n : Nat} (h : Pbs P n) : Prs P n := ⟨h.n2, h.n100, h.old, fun i hi => by have := h.new i hi; omega, h.two⟩
theorem Pbs.all {P : Nat → ByteArray} {n : Nat} (h : Pbs P n) : all1 P n = true := by
  unfold all1
  rw [List.all_eq_true]
  exact fun j hj => decide_eq_true (h.new j (List.mem_range.1 hj))
/-- What stands in a byte's place. -/
def rC (P : Nat → ByteArray) (n : Nat) (x : UInt8) : UInt8 := match (List.range n).find? (fun i => bAt (P (2 * i)) 0 == x) with
  | some i => bAt (P (2 * i + 1)) 0
  | none => x
theorem one_list {s : ByteArray} (h : s.size = 1) : s.data.toList = [bAt s 0] := by
  obtain ⟨⟨l⟩⟩ := s
  match l, h with
  | [x], _ => rfl
theorem rB_one {P : Nat → ByteArray} {n : Nat} (hp : Pbs P n) (x : UInt8) : rB P n x = [rC P n x] := by
  unfold rB rC
  cases h : (List.range n).find? (fun i => bAt (P (2 * i)) 0 == x) with
  | none => rfl
  | some i => exact one_list (hp.new i (List.mem_range.1 (List.mem_of_find?_eq_some h)))
theorem outB_map {P : Nat → ByteArray} {n : Nat} (hp : Pbs P n) : ∀ l : List UInt8, outB P n l = l.map (rC P n)
  | [] => rfl
  | x :: l => by
    rw [show outB P n (x :: l) = rB P n x ++ outB P n l from rfl, rB_one hp, outB_map hp l]
    rfl
/-- What the table holds behind j pairs from the end. -/
structure Tc (P : Nat → ByteArray) (n j B : Nat) (g : Nat → UInt8) (wr : World) : Prop where
  row : BRow wr B 256 g
  on : ∀ i, n - j ≤ i → i < n → g (bAt (P (2 * i)) 0).toNat = bAt (P (2 * i + 1)) 0
  off : ∀ x : UInt8, (∀ i, n - j ≤ i → i < n → bAt (P (2 * i)) 0 ≠ x) → g x.toNat = x
theorem Tc.step {P : Nat → ByteArray} {n j B X : Nat} {g : Nat → UInt8} {wr : World} (hp : Pbs P n) (hT : Tc P n j B g wr) (hj : j < n) {mm : Nat} (hmm : mm = 2 * (n - 1 - j)) (hX : X = (bAt (P mm) 0).toNat) :
    Tc P n (j + 1) B (fun t => if t = X then bAt (P (mm + 1)) 0 else g t) (wr.setCell ⟨B, X, none⟩ (.int .u8 (bAt (P (mm + 1)) 0).toNat)) := by
  refine ⟨hT.row.set _, fun i h1 h2 => ?_, fun x hx => ?_⟩
  · by_cases h : i = n - 1 - j
    · rw [if_pos (by rw [h, ← hmm, hX]), h, ← hmm]
    · have hne : ¬ (bAt (P (2 * i)) 0).toNat = X := fun e => by
        have := hp.two i (n - 1 - j) h2 (by omega) (by rw [← hmm]; exact UInt8.toNat_inj.1 (by rw [e, hX]))
        omega
      rw [if_neg hne]
      exact hT.on i (by omega) h2
  · have hne : ¬ x.toNat = X := fun e => hx (n - 1 - j) (by omega) (by omega) (by rw [← hmm]; exact UInt8.toNat_inj.1 (by rw [e, hX]))
    rw [if_neg hne]
    exact hT.off x (fun i h1 h2 => hx i (by omega) h2)
theorem Tc.all {P : Nat → ByteArray} {n B : Nat} {g : Nat → UInt8} {wr : World} (hp : Pbs P n) (hT : Tc P n n B g wr) (x : UInt8) : g x.toNat = rC P n x := by
  rcases rB_cases P n x with ⟨i, hi, rfl⟩ | h
  · rw [hT.on i (by omega) hi]
    have h1 := rB_key hp.prs hi
    rw [rB_one hp, one_list (hp.new i hi)] at h1
    injection h1 with h1
    exact h1.symm
  · rw [hT.off x (fun i _ hi => h i hi)]
    have h1 := rB_no h
    rw [rB_one hp] at h1
    injection h1 with h1
    exact h1.symm
def L2 (w : World) (v61 : Value) (wr : World) : Prop := ∃ k : Nat, k ≤ 256 ∧ v61 = .int .i64 k ∧ Below w.heap.size w wr ∧ ∃ g, BRow wr w.heap.size 256 g ∧ ∀ t, t < 256 → g t = if t < k then UInt8.ofNat t else 0
def L3 (P : Nat → ByteArray) (n : Nat) (w : World) (v8 : Value) (wr : World) : Prop := ∃ (j : Nat) (m : Int), j ≤ n ∧ v8 = .int .i64 m ∧ Hid (m = 2 * ((n : Int) - 1 - j)) ∧ Below w.heap.size w wr ∧ ∃ g, Tc P n j w.heap.size g wr
/-- The zero table. -/
@[irreducible] def tb0 : Array Value := Array.replicate 256 (.int .u8 0)
theorem tb0_size : tb0.size = 256 := by unfold tb0; simp
theorem tb0_at (k : Nat) (hk : k < 256) : tb0[k]? = some (.int .u8 0) := by
  unfold tb0
  rw [Array.getElem?_replicate, if_pos hk]
theorem tb0_one : tb0.all (·.oneCell') = true := by
  unfold tb0
  rw [Array.all_replicate]
  rfl
theorem zero_tb : (∀ w, (zeroValue 294).run Tryz.prog w = .ok (.agg tb0) w) ∧ (Tryz.prog.info? 294).map (·.size) = some 256 := by
  unfold tb0
  exact zero_of_info (P := Tryz.prog) (t := 294) (v := .agg ((Array.replicate 256 (.int .u8 0)))) (n := 256) (by kernel_rfl)
set_option maxRecDepth 100000 in
theorem built_tb : Tryz.prog.built 294 [] = some tb0 := by
  unfold tb0
  kernel_rfl
theorem brow_new (w : World) : BRow (w.alloc (.cells tb0 294)) w.heap.size 256 (fun _ => 0) :=
  ⟨tb0, _, 0, 0, heap_alloc_new w _, fun t ht h => by omega, by rw [tb0_size]; exact Nat.le_refl _, fun t ht => tb0_at t ht⟩
set_option maxRecDepth 100000 in
set_option maxHeartbeats 3200000 in
theorem build_byt (P : Nat → ByteArray) (n : Nat) (hp : Pbs P n) (b q o c : Nat) (w : World) (hc : w.cell? ⟨b, 4, none⟩ = some (.slice (some ⟨q, o, none⟩) (2 * n : Nat) c)) (hP : ∀ i, i < 2 * n → w.cell? ⟨q, o + i, none⟩ = some (.string (P i))) :
    Calls Tryz.prog 137 #[.pointer (some ⟨b, 0, none⟩)] w fun e w' => e = .returned (.iface 295 (.pointer (some ⟨w.heap.size, 0, none⟩))) ∧ Below w.heap.size w w' ∧ ∃ g, Tc P n n w.heap.size g w' := by
  have h1 := hp.all
  obtain ⟨N, hN⟩ : ∃ N, N = 2 * n := ⟨_, rfl⟩
  rw [← hN] at hc hP
  have hNb : N ≤ 200 := by have := hp.n100; omega
  have hne : ((N : Int) == 2) = false := by have := hp.n2; simp; omega
  have HN := hide hN
  clear hN
  go_enter Tryz.func137, Tryz.ntmps137
  go_wp2_with fail
  go_loopw [4, 5] (L1 P n w) (fun _ v5 _ => N - (intOf v5).toNat)
  case atStart => exact ⟨0, 0, hide rfl, Nat.zero_le _, rfl, rfl, rfl⟩
  case round =>
    obtain ⟨m, k, hm, hk, rfl, rfl, hw⟩ := hrel
    have hw := hw.symm
    subst hw
    by_cases hlt : k < n
    · have HLT := hide hlt
      have hm1 : m + 1 < N := by have := hm.out; have := HN.out; omega
      have hmi : (m : Int) < N := by omega
      have hmi1 : (m : Int) + 1 < N := by omega
      clear hlt
      have a0 := hP m (by omega)
      have a1 := hP (m + 1) (by omega)
      have hs0 : (P m).size = 1 := by rw [hm.out]; exact hp.old k HLT.out
      have hs0' : (((P m).size : Int) != 1) = false := by rw [hs0]; rfl
      have hs1 : (P (m + 1)).size = 1 := by rw [hm.out]; exact hp.new k HLT.out
      have hs1' : (((P (m + 1)).size : Int) != 1) = false := by rw [hs1]; rfl
      have hfin : all1 P (k + 1) = all1 P k := by rw [all1_succ, ← hm.out, hs1]; simp
      go_wp2_with fail
      go_roundw
      case rel => exact ⟨m + 2, k + 1, hide (by rw [hm.out]; omega), HLT.out, by go_num, by rw [hfin], rfl⟩
      case measure => simp [intOf]; omega
    · obtain rfl : k = n := by omega
      have hmN : m = N := by rw [hm.out, HN.out]
      subst hmN
      rw [h1]
      obtain ⟨hz2, hz3⟩ := zero_tb
      have hbt := built_tb
      have hst := run_storeCells_new (P := Tryz.prog) w 294 tb0 tb0 (by rw [hz3, tb0_size]) rfl tb0_one
      have hzs := tb0_size
      go_wp2_with fail
      clear hst hz2 hbt hz3 hzs
      go_loopw [61] (L2 w) (fun v61 _ => 257 - (intOf v61).toNat)
      case atStart => exact ⟨0, by omega, rfl, (Below.refl _ w).alloc (Nat.le_refl _) _, _, brow_new w, fun t ht => by rw [if_neg (by omega)]⟩
      case round =>
        obtain ⟨x, hx, rfl, hB, g, hg, hgx⟩ := hrel
        by_cases hlt : x < 256
        · have hxi : (x : Int) < 256 := by omega
          have cx := hg.cell hlt
          have zx := hg.frozen hlt
          have hR2 := hg.set (i := x) (UInt8.ofNat x)
          rw [show (UInt8.ofNat x).toNat = x by simp; omega] at hR2
          have HR2 := hide hR2
          clear hR2
          go_wp2_with fail
          go_roundw
          case rel =>
            refine ⟨x + 1, hlt, by go_num, set_below hB (Nat.le_refl _) _, _, HR2.out, fun t ht => ?_⟩
            by_cases e : t = x
            · rw [if_pos e, if_pos (by omega), e]
            · rw [if_neg e, hgx t ht]
              by_cases e2 : t < x
              · rw [if_pos e2, if_pos (by omega)]
              · rw [if_neg e2, if_neg (by omega)]
          case measure => simp [intOf]; omega
        · obtain rfl : x = 256 := by omega
          have hgx' : ∀ t, t < 256 → g t = UInt8.ofNat t := fun t ht => by rw [hgx t ht, if_pos ht]
          clear hgx
          go_wp2_with fail
          go_loopw [8] (L3 P k w) (fun v8 _ => ((intOf v8) + 2).toNat)
          case atStart => exact ⟨0, _, Nat.zero_le _, rfl, hide (by have := HN.out; omega), hB, g, hg, fun i h1 h2 => by omega, fun y _ => by rw [hgx' _ (UInt8.toNat_lt y)]; simp⟩
          case round =>
            obtain ⟨j, m', hj, rfl, hm', hB, g, hT⟩ := hrel
            by_cases hlt : j < k
            · obtain ⟨mm, hmm⟩ : ∃ mm, mm = 2 * (k - 1 - j) := ⟨_, rfl⟩
              obtain rfl : m' = (mm : Int) := by have := hm'.out; omega
              have hmk : mm + 1 < m := by have := HN.out; omega
              have a0 : wr.cell? ⟨q, o + mm, none⟩ = some (.string (P mm)) := (hB.cell (p := ⟨q, o + mm, none⟩) (World.block_lt_of_cell? w ⟨q, o + mm, none⟩ (hP mm (by omega)))).trans (hP mm (by omega))
              have a1 : wr.cell? ⟨q, o + (mm + 1), none⟩ = some (.string (P (mm + 1))) := (hB.cell (p := ⟨q, o + (mm + 1), none⟩) (World.block_lt_of_cell? w ⟨q, o + (mm + 1), none⟩ (hP (mm + 1) (by omega)))).trans (hP (mm + 1) (by omega))
              have hmi1 : (mm : Int) + 1 < m := by omega
              have hmi : (mm : Int) < m := by omega
              have hs0 : (P mm).size = 1 := by rw [hmm]; exact hp.old _ (by omega)
              have hs1 : (P (mm + 1)).size = 1 := by rw [hmm]; exact hp.new _ (by omega)
              have hix := bAt0 hs0
              have hix1 := bAt0 hs1
              obtain ⟨X, hX⟩ : ∃ X, X = (bAt (P mm) 0).toNat := ⟨_, rfl⟩
              have hX1 : X < 256 := by rw [hX]; exact UInt8.toNat_lt _
              rw [← hX] at hix
              have cx := hT.row.cell hX1
              have zx := hT.row.frozen hX1
              have HS := hide (hT.step hp hlt hmm hX)
              clear hX hmm hs0 hs1
              go_wp2_with fail
              go_roundw
              case rel => exact ⟨j + 1, _, hlt, rfl, hide (by have := hm'.out; omega), set_below hB (Nat.le_refl _) _, _, HS.out⟩
              case measure => simp [intOf]; omega
            · obtain rfl : j = k := by omega
              obtain rfl : m' = -2 := by have := hm'.out; omega
              go_wp2_with fail
              go_ret
              exact ⟨rfl, hB, g, hT⟩
/-- The loop of Replace. -/
def D1 (P : Nat → ByteArray) (n : Nat) (s : ByteArray) (w : World) (v5 v6 : Value) (wr : World) : Prop := ∃ m : Nat, m ≤ s.size ∧ v6 = .int .i64 m ∧
  ((v5 = .slice none 0 0 ∧ Hid (∀ t, t < m → rC P n (bAt s t) = bAt s t) ∧ Below w.heap.size w wr) ∨
   ∃ (B c : Nat) (f : Nat → UInt8), v5 = .slice (some ⟨B, 0, none⟩) s.size c ∧ w.heap.size ≤ B ∧ Below w.heap.size w wr ∧ BRow wr B s.size f ∧ Hid (∀ t, t < s.size → f t = if t < m then rC P n (bAt s t) else bAt s t))
theorem map_out (s : ByteArray) (F : UInt8 → UInt8) (f : Nat → UInt8) (h : ∀ t, t < s.size → f t = F (bAt s t)) : (List.range s.size).map f = s.data.toList.map F := by
  apply List.ext_getElem
  · simp
  · intro i h1 h2
    have hi : i < s.size := by simpa using h1
    rw [List.getElem_map, List.getElem_map, List.getElem_range, h i hi, bAt_get]
set_option maxRecDepth 100000 in
set_option maxHeartbeats 3200000 in
theorem replace_byt (P : Nat → ByteArray) (n B0 : Nat) (g : Nat → UInt8) (w : World) (hp : Pbs P n) (hT : Tc P n n B0 g w) (s : ByteArray) (hs0 : s.size ≤ 281474976710656) :
    Calls Tryz.prog 289 #[.pointer (some ⟨B0, 0, none⟩), .string s] w fun e w' => e = .returned (.string ⟨(outB P n s.data.toList).toArray⟩) ∧ Below w.heap.size w w' := by
  have hlt0 := hT.row.lt
  have hs : s.size ≤ maxLen := by unfold maxLen; omega
  go_enter Tryz.func289, Tryz.ntmps289
  go_wp2_with fail
  go_loopw [5, 6] (D1 P n s w) (fun _ v6 _ => s.size - (intOf v6).toNat)
  case atStart => exact ⟨0, Nat.zero_le _, rfl, .inl ⟨rfl, hide (fun t ht => by omega), Below.refl _ _⟩⟩
  case round =>
    obtain ⟨m, hm, rfl, hst⟩ := hrel
    by_cases hlt : m < s.size
    · have hmi : (m : Int) < s.size := by omega
      have hix := bAt_index hlt
      obtain ⟨x, hx⟩ : ∃ x, x = bAt s m := ⟨_, rfl⟩
      have hxl := UInt8.toNat_lt x
      rw [← hx] at hix
      obtain ⟨X, hX⟩ : ∃ X, X = x.toNat := ⟨_, rfl⟩
      have hX1 : X < 256 := by rw [hX]; exact hxl
      obtain ⟨y, hy⟩ : ∃ y, y = rC P n x := ⟨_, rfl⟩
      obtain ⟨Y, hY⟩ : ∃ Y, Y = y.toNat := ⟨_, rfl⟩
      have ct : ∀ W, Below w.heap.size w W → W.cell? ⟨B0, X, none⟩ = some (.int .u8 Y) := fun W hb => by
        rw [hY, hy, ← hT.all hp x, ← hX]
        exact (hb.cell (p := ⟨B0, X, none⟩) (World.block_lt_of_cell? w ⟨B0, X, none⟩ (hT.row.cell hX1))).trans (hT.row.cell hX1)
      rw [← hX] at hix
      have HX := hide hX
      have HY := hide hY
      have Hx := hide hx
      have Hy := hide hy
      have hnil := eql_nil none 0 0
      clear hx hX hy hY hxl
      by_cases he : X = Y
      · have hne : ((Y : Int) != X) = false := by rw [he]; simp
        have hyx : rC P n (bAt s m) = bAt s m := by rw [← Hx.out, ← Hy.out]; exact UInt8.toNat_inj.1 (by rw [← HX.out, ← HY.out, he])
        have HYX := hide hyx
        clear hyx he
        rcases hst with ⟨rfl, hf, hB⟩ | ⟨B, c, f, rfl, hBl, hB, hR, hf⟩
        · have a1 := ct _ hB
          clear ct
          go_wp2_with fail
          go_roundw
          case rel => exact ⟨m + 1, hlt, by go_num, .inl ⟨rfl, hide (fun t ht => (Nat.lt_succ_iff_lt_or_eq.1 ht).elim (hf.out t) (fun h => by rw [h]; exact HYX.out)), hB⟩⟩
          case measure => simp [intOf]; omega
        · have a1 := ct _ hB
          clear ct
          go_wp2_with fail
          go_roundw
          case rel =>
            refine ⟨m + 1, hlt, by go_num, .inr ⟨B, c, f, rfl, hBl, hB, hR, hide (fun t ht => ?_)⟩⟩
            rw [hf.out t ht]
            by_cases e : t = m
            · rw [if_neg (by omega), if_pos (by omega), e, HYX.out]
            · by_cases e2 : t < m
              · rw [if_pos e2, if_pos (by omega)]
              · rw [if_neg e2, if_neg (by omega)]
          case measure => simp [intOf]; omega
      · have hne : ((Y : Int) != X) = true := by simp; omega
        clear he
        rcases hst with ⟨rfl, hf, hB⟩ | ⟨B, c, f, rfl, hBl, hB, hR, hf⟩
        · have a1 := ct _ hB
          obtain ⟨Q, cQ, W5, hQ, hcQ, hsc, hcm, hB5, hR5⟩ := brow_conv wr s hs
          have hB5' : Below w.heap.size w W5 := hB.trans (hB5.mono hB.size)
          have a5 := ct _ hB5'
          have c5 := hR5.cell hlt
          have z5 := hR5.frozen hlt
          have hQl : w.heap.size ≤ Q := by rw [hQ]; exact hB.size
          have HQ := hide hQ
          clear ct hQ hB5
          go_wp2_with fail
          go_roundw
          case rel =>
            refine ⟨m + 1, hlt, by go_num, .inr ⟨Q, cQ, _, rfl, hQl, set_below hB5' hQl _, by rw [HY.out]; exact hR5.set y, hide (fun t ht => ?_)⟩⟩
            by_cases e : t = m
            · rw [if_pos e, if_pos (by omega), e, Hy.out, Hx.out]
            · rw [if_neg e]
              by_cases e2 : t < m
              · rw [if_pos (by omega), hf.out t e2]
              · rw [if_neg (by omega)]
          case measure => simp [intOf]; omega
        · have a1 := ct _ hB
          have c5 := hR.cell hlt
          have z5 := hR.frozen hlt
          have hnil2 := eql_nil (some ⟨B, 0, none⟩) s.size c
          clear ct
          go_wp2_with fail
          go_roundw
          case rel =>
            refine ⟨m + 1, hlt, by go_num, .inr ⟨B, c, _, rfl, hBl, set_below hB hBl _, by rw [HY.out]; exact hR.set y, hide (fun t ht => ?_)⟩⟩
            by_cases e : t = m
            · rw [if_pos e, if_pos (by omega), e, Hy.out, Hx.out]
            · rw [if_neg e, hf.out t ht]
              by_cases e2 : t < m
              · rw [if_pos e2, if_pos (by omega)]
              · rw [if_neg e2, if_neg (by omega)]
          case measure => simp [intOf]; omega
    · obtain rfl : m = s.size := by omega
      have hnil := eql_nil none 0 0
      have hout : ∀ f : Nat → UInt8, (∀ t, t < s.size → f t = rC P n (bAt s t)) → ((List.range s.size).map f) = outB P n s.data.toList := fun f hf => by rw [outB_map hp, map_out s (rC P n) f hf]
      rcases hst with ⟨rfl, hf, hB⟩ | ⟨B, c, f, rfl, hBl, hB, hR, hf⟩
      · have he : s = ⟨(outB P n s.data.toList).toArray⟩ := by
          rw [← hout (fun t => bAt s t) (fun t ht => (hf.out t ht).symm), map_out s id (fun t => bAt s t) (fun _ _ => rfl), List.map_id]
        have HE := hide he
        clear he hout
        go_wp2_with fail
        go_ret
        exact ⟨by rw [← HE.out]; rfl, hB⟩
      · have hnil2 := eql_nil (some ⟨B, 0, none⟩) s.size c
        have hcv := brow_back (c := c) hR
        rw [hout f (fun t ht => by rw [hf.out t ht, if_pos ht])] at hcv
        clear hout
        go_wp2_with fail
        go_ret
        exact ⟨rfl, hB⟩
end Go.Proofs.YtiaibkbflmamgaaGreatDoor.rp
