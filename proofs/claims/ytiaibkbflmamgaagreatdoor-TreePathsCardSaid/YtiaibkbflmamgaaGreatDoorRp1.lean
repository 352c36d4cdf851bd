/-
  Byte rows of the call's own: a row of bytes read as a list; append of one byte, of a string's bytes; the conversions there and back. strings.Replacer's build at pairs of single bytes and texts: the table of a byteStringReplacer.
-/
import Derived.Test.YtiaibkbflmamgaaGreatDoorL3
import Derived.Test.YtiaibkbflmamgaaGreatDoorProg
import Derived.Laws.BytesArg
import Derived.Lib.ConvBytes
import Derived.Laws.Concat
import Derived.Test.YtiaibkbflmamgaaGreatDoorRp0
import Derived.Test.YtiaibkbflmamgaaGreatDoorN2
import Derived.Deep.WholeRow
import Derived.Deep.OwnRows
import Derived.Lib.LazyBuf
import Derived.Deep.AppendSrc
import Derived.Lib.AppendZeros
namespace Go.Proofs.YtiaibkbflmamgaaGreatDoor
open Go.RowKit

theorem bytT : SlTy Tryz.prog 46 5 (.int .u8 0) 1 1 :=
  ⟨Tryz.underlying46, info_parts (by kernel_rfl), rfl, by decide, by decide⟩

def bcells (l : List UInt8) : List Value := l.map fun b => Value.int .u8 b.toNat
theorem bcells_app (l m : List UInt8) : bcells (l ++ m) = bcells l ++ bcells m := by simp [bcells]
theorem bcells_len (l : List UInt8) : (bcells l).length = l.length := by simp [bcells]
theorem bcells_at {l : List UInt8} {j : Nat} (h : j < l.length) : (bcells l)[j]? = some (.int .u8 (l[j]).toNat) := by
  simp [bcells, h]

/-- The string of a list of bytes. -/
def bstr (l : List UInt8) : ByteArray := ⟨l.toArray⟩
theorem bstr_size (l : List UInt8) : (bstr l).size = l.length := by simp [bstr, ByteArray.size]
theorem bstr_app (l m : List UInt8) : bstr l ++ bstr m = bstr (l ++ m) := ByteArray.mk_append_mk _ _
theorem bstr_toList (s : ByteArray) : bstr s.data.toList = s := by
  obtain ⟨⟨l⟩⟩ := s
  rfl
theorem bstr_data (l : List UInt8) : (bstr l).data.toList = l := rfl

theorem strOfNums_bytes (l : List UInt8) : strOfNums (l.map fun b => (b.toNat : Int)) = bstr l := by
  unfold strOfNums bstr
  congr 2
  induction l with
  | nil => rfl
  | cons a l ih => simp at ih ⊢; exact ih

set_option maxRecDepth 100000 in
/-- 'string(out)'. -/
theorem bconv {w : World} {B n c : Nat} {A : Option Addr} {l : List UInt8} (h : w.ownsRow B 5 1 (.slice A n c) n (bcells l)) :
    (convert 46 9 (.slice A n c)).run Tryz.prog w = .ok (.string (bstr l)) w := by
  have hl : l.length = n := by have := h.1; rw [bcells_len, Nat.mul_one] at this; exact this
  rcases Nat.eq_zero_or_pos n with h0 | h0
  · obtain rfl : l = [] := List.eq_nil_of_length_eq_zero (by omega)
    subst h0
    rcases h.2 with ⟨h1, _⟩ | ⟨g, cap, cur, h1, _⟩
    · injection h1 with h1 _ _
      subst h1
      rw [run_convert_bytes_nil w 46 5 Tryz.underlying46 Tryz.underlying5 _ _ _ Tryz.underlying9]
      rfl
    · injection h1 with h1 _ _
      subst h1
      rw [run_convert_bytes_arg w 46 5 Tryz.underlying46 Tryz.underlying5 g 0 0 c [] rfl (fun i hi => absurd hi (by omega)) _ Tryz.underlying9]
      rfl
  · obtain ⟨g, cap, hv, _, _⟩ := h.form h0
    injection hv with hA _ _
    subst hA
    rw [run_convert_bytes_arg w 46 5 Tryz.underlying46 Tryz.underlying5 g 0 n c (l.map fun b => (b.toNat : Int)) (by simpa using hl) (fun i hi => ?_) _ Tryz.underlying9, strOfNums_bytes]
    have hc := h.cellAt i (by omega)
    rw [Nat.zero_add, hc, bcells_at (by omega)]
    simp [List.getElem?_map, List.getElem?_eq_getElem (show i < l.length by omega)]

theorem bcells_one (x : UInt8) : (#[Value.int .u8 (x.toNat : Int)] : Array Value).toList = bcells [x] := rfl
end Go.Proofs.YtiaibkbflmamgaaGreatDoor
namespace Go.Proofs.YtiaibkbflmamgaaGreatDoor.rp
open Go.RowKit
set_option linter.unusedVariables false
set_option linter.unusedSimpArgs false
/-- Old and new strings: n pairs. -/
structure Prs (P : Nat → ByteArray) (n : Nat) : Prop where
  n2 : 2 ≤ n
  n100 : n ≤ 100
  old : ∀ i, i < n → (P (2 * i)).size = 1
  new : ∀ i, i < n → 0 < (P (2 * i + 1)).size ∧ (P (2 * i + 1)).size ≤ 100
  two : ∀ i j, i < n → j < n → bAt (P (2 * i)) 0 = bAt (P (2 * j)) 0 → i = j
def all1 (P : Nat → ByteArray) (k : Nat) : Bool := (List.range k).all fun j => decide ((P (2 * j + 1)).size = 1)
theorem all1_succ (P : Nat → ByteArray) (k : Nat) : all1 P (k + 1) = (all1 P k && decide ((P (2 * k + 1)).size = 1)) := by
  unfold all1
  rw [List.range_succ, List.all_append]
  simp
def L1 (P : Nat → ByteArray) (n : Nat) (w : World) (v4 v5 : Value) (wr : World) : Prop := ∃ m k : Nat, Hid (m = 2 * k) ∧ k ≤ n ∧ v5 = .int .i64 m ∧ v4 = .bool (all1 P k) ∧ wr = w
/-- What the table holds behind j pairs from the end; B: the row of what is to be replaced, its strings; the next block: the table. -/
structure Tb (P : Nat → ByteArray) (n j B : Nat) (g f : Nat → Value) (wr : World) : Prop where
  row : wr.rowIs B 9 n f
  tab : wr.rowIs (B + 1) 298 257 g
  g256 : g 256 = .slice (some ⟨B, 0, none⟩) j n
  fs : ∀ t, t < j → f t = .string (P (2 * (n - 1 - t)))
  on : ∀ i, n - j ≤ i → i < n → ∃ q c, g (bAt (P (2 * i)) 0).toNat = .slice (some ⟨q, 0, none⟩) (P (2 * i + 1)).size c ∧ B + 1 < q ∧ (P (2 * i + 1)).size ≤ c ∧ c ≤ maxLen ∧ ∀ t, t < (P (2 * i + 1)).size → wr.cell? ⟨q, t, none⟩ = some (.int .u8 (bAt (P (2 * i + 1)) t).toNat)
  off : ∀ x, x < 256 → (∀ i, n - j ≤ i → i < n → (bAt (P (2 * i)) 0).toNat ≠ x) → g x = .slice none 0 0
/-- What a round leaves. -/
structure Keep (B : Nat) (w w' : World) : Prop where
  os : w'.os = w.os
  tape : w'.tape = w.tape
  output : w'.output = w.output
  size : w.heap.size ≤ w'.heap.size
  blk : ∀ q, q < w.heap.size → q ≠ B → q ≠ B + 1 → w'.heap[q]? = w.heap[q]?
theorem Keep.below {B : Nat} {w w1 w2 : World} (h : Below B w w1) (k : Keep B w1 w2) (hB : B ≤ w1.heap.size) : Below B w w2 :=
  ⟨k.os.trans h.os, k.tape.trans h.tape, k.output.trans h.output, Nat.le_trans h.size k.size, fun q hq => (k.blk q (by omega) (by omega) (by omega)).trans (h.block q hq)⟩
theorem alloc_size (w : World) (o : Obj) : (w.alloc o).heap.size = w.heap.size + 1 := by
  show (w.heap.push o).size = _
  simp
theorem set_size (w : World) (a : Addr) (v : Value) : (w.setCell a v).heap.size = w.heap.size := by simp [World.setCell]
theorem Tb.step {P : Nat → ByteArray} {n j B mm X : Nat} {g f : Nat → Value} {wr W5 : World} (hp : Prs P n) (hT : Tb P n j B g f wr) (hj : j < n) (hmm : mm = 2 * (n - 1 - j)) (hX : X = (bAt (P mm) 0).toNat) (Q cQ : Nat) (O1 O2 : Obj)
    (hQ : Q = ((((wr.alloc O1).alloc O2).setCell ⟨B, j, none⟩ (.string (P mm))).setCell ⟨B + 1, 256, none⟩ (.slice (some ⟨B, 0, none⟩) (j + 1) n)).heap.size)
    (hsc : (P (mm + 1)).size ≤ cQ) (hcm : cQ ≤ maxLen)
    (hold : ∀ q, q < Q → W5.heap[q]? = ((((wr.alloc O1).alloc O2).setCell ⟨B, j, none⟩ (.string (P mm))).setCell ⟨B + 1, 256, none⟩ (.slice (some ⟨B, 0, none⟩) (j + 1) n)).heap[q]?)
    (hsz : W5.heap.size = Q + 1) (hos : W5.os = wr.os) (htp : W5.tape = wr.tape) (hou : W5.output = wr.output)
    (hb : ∀ t, t < (P (mm + 1)).size → W5.cell? ⟨Q, t, none⟩ = some (.int .u8 (bAt (P (mm + 1)) t).toNat)) :
    (∃ g f, Tb P n (j + 1) B g f (W5.setCell ⟨B + 1, X, none⟩ (.slice (some ⟨Q, 0, none⟩) (P (mm + 1)).size cQ))) ∧ Keep B wr (W5.setCell ⟨B + 1, X, none⟩ (.slice (some ⟨Q, 0, none⟩) (P (mm + 1)).size cQ)) := by
  have hlt := hT.tab.lt
  rw [set_size, set_size, alloc_size, alloc_size] at hQ
  have hX1 : X < 256 := by rw [hX]; exact UInt8.toNat_lt _
  have hT3 := ((hT.tab.alloc O1).alloc O2).setOther (a := ⟨B, j, none⟩) (by simp) (.string (P mm))
  have hT5 := ((hT3.set 256 (.slice (some ⟨B, 0, none⟩) (j + 1) n)).of_block (hold _ (by omega))).set X (.slice (some ⟨Q, 0, none⟩) (P (mm + 1)).size cQ)
  have hR5 := (((((hT.row.alloc O1).alloc O2).set j (.string (P mm))).setOther (a := ⟨B + 1, 256, none⟩) (by simp) (.slice (some ⟨B, 0, none⟩) (j + 1) n)).of_block (hold _ (by omega))).setOther (a := ⟨B + 1, X, none⟩) (by simp) (.slice (some ⟨Q, 0, none⟩) (P (mm + 1)).size cQ)
  have hk : Keep B wr (W5.setCell ⟨B + 1, X, none⟩ (.slice (some ⟨Q, 0, none⟩) (P (mm + 1)).size cQ)) := by
    refine ⟨hos, htp, hou, by rw [set_size, hsz]; omega, fun q h1 h2 h3 => ?_⟩
    rw [Go.Deep.blk_setCell_other _ _ _ _ (by simpa using h3), hold q (by omega), Go.Deep.blk_setCell_other _ _ _ _ (by simpa using h3), Go.Deep.blk_setCell_other _ _ _ _ (by simpa using h2), Go.Deep.blk_alloc_lt _ _ _ (by rw [alloc_size]; omega), Go.Deep.blk_alloc_lt _ _ _ h1]
  refine ⟨⟨_, _, hR5, hT5, ?_, fun t ht => ?_, fun i h1 h2 => ?_, fun x hx hno => ?_⟩, hk⟩
  · rw [if_neg (by omega)]
    exact if_pos rfl
  · by_cases h : t = j
    · subst h; rw [if_pos rfl, hmm]
    · rw [if_neg h]; exact hT.fs t (by omega)
  · by_cases h : i = n - 1 - j
    · rw [if_pos (by rw [h, ← hmm, hX])]
      refine ⟨Q, cQ, by rw [h, ← hmm], by omega, by rw [h, ← hmm]; exact hsc, hcm, fun t ht => ?_⟩
      rw [World.cell?_setCell_other _ _ _ _ (by intro e; have := congrArg Addr.block e; simp at this; omega)]
      rw [h, ← hmm] at ht ⊢
      exact hb t ht
    · have hne : ¬ (bAt (P (2 * i)) 0).toNat = X := fun e => by
        have := hp.two i (n - 1 - j) h2 (by omega) (by rw [← hmm]; exact UInt8.toNat_inj.1 (by rw [e, hX]))
        omega
      obtain ⟨q, c, q1, q2, q3, q4, q5⟩ := hT.on i (by omega) h2
      have hlt2 := UInt8.toNat_lt (bAt (P (2 * i)) 0)
      refine ⟨q, c, by rw [if_neg hne, if_neg (by omega)]; exact q1, q2, q3, q4, fun t ht => ?_⟩
      have hc := q5 t ht
      exact (World.cell?_of_block (hk.blk q (World.block_lt_of_cell? wr ⟨q, t, none⟩ hc) (by omega) (by omega))).trans hc
  · have hne : ¬ x = X := fun e => hno (n - 1 - j) (by omega) (by omega) (by rw [← hmm, e, hX])
    rw [if_neg hne, if_neg (by omega)]
    exact hT.off x hx (fun i h1 h2 => hno i (by omega) h2)
def L4 (P : Nat → ByteArray) (n : Nat) (w : World) (v12 : Value) (wr : World) : Prop := ∃ (j : Nat) (m : Int), j ≤ n ∧ v12 = .int .i64 m ∧ Hid (m = 2 * ((n : Int) - 1 - j)) ∧ Below w.heap.size w wr ∧ ∃ g f, Tb P n j w.heap.size g f wr
theorem eql_nil (A : Option Addr) (l c : Nat) (w : World) : (binOp .eql 46 (.slice A l c) (.slice none 0 0)).run Tryz.prog w = .ok (.bool A.isNone) w := by
  have := run_equal_slice_nil (P := Tryz.prog) (w := w) 46 5 A l c Tryz.underlying46
  simp [binOp, this]
set_option maxRecDepth 100000 in
/-- Append of one string where there is room. -/
theorem apR {w : World} {B n j S : Nat} {f : Nat → Value} {s : ByteArray} (h : w.rowIs B 9 n f) (hj : j < n) (hS : w.cell? ⟨S, 0, none⟩ = some (.string s)) (ty : TypeId) :
    (Builtin.append_ #[27, 27] ty #[.slice (some ⟨B, 0, none⟩) j n, .slice (some ⟨S, 0, none⟩) 1 1]).run Tryz.prog w = .ok (.slice (some ⟨B, 0, none⟩) (j + 1) n) (w.setCell ⟨B, j, none⟩ (.string s)) := by
  obtain ⟨i9, hi9, hz9, hsz9, hby9⟩ : ∃ i, Tryz.prog.info? 9 = some i ∧ i.zero = some (.string ⟨#[]⟩) ∧ i.size = 1 ∧ i.bytes = 16 := info_parts (by kernel_rfl)
  have hsrc : Src Tryz.prog i9.size 27 (.slice (some ⟨S, 0, none⟩) 1 1) 1 [.string s] w := by
    refine Src.ofSlice w Tryz.underlying27 ⟨S, 0, none⟩ 1 1 [.string s] (by rw [hsz9]; rfl) (fun k u hk => ?_) (fun v hv => by rw [List.mem_singleton.1 hv]; rfl)
    match k, hk with
    | 0, hk => injection hk with hk; subst hk; exact hS
  have := run_append_room_src (P := Tryz.prog) w 27 27 ty 9 i9 Tryz.underlying27 hi9 B 0 j n _ 1 [.string s] hsrc (by omega)
    (fun k hk => by obtain rfl : k = 0 := by simpa using hk
                    rw [hsz9, h.cell (i := 0 + j * 1 + 0) (by omega)]; rfl)
    (fun k hk => h.frozen _)
  rw [hsz9, Nat.zero_add, Nat.mul_one] at this
  exact this
theorem nums1 {s : ByteArray} (h : s.size = 1) : strOfNums [((bAt s 0).toNat : Int)] = s := by
  obtain ⟨⟨l⟩⟩ := s
  match l, h with
  | [x], _ => simp [strOfNums, bAt]
/-- A text as a row of bytes of its own. -/
theorem conv_bytes (w : World) (s : ByteArray) (hs : s.size ≤ maxLen) : ∃ (Q c : Nat) (w' : World), Q = w.heap.size ∧ (convert 9 46 (.string s)).run Tryz.prog w = .ok (.slice (some ⟨Q, 0, none⟩) s.size c) w' ∧ s.size ≤ c ∧ c ≤ maxLen ∧ (∀ j, j < Q → w'.heap[j]? = w.heap[j]?) ∧ w'.heap.size = Q + 1 ∧ w'.os = w.os ∧ w'.tape = w.tape ∧ w'.output = w.output ∧
    ∀ t, t < s.size → w'.cell? ⟨Q, t, none⟩ = some (.int .u8 (bAt s t).toNat) :=
  ⟨_, _, _, rfl, Lib.run_convert_string_bytes w _ _ _ s Tryz.underlying9 Tryz.underlying46 Tryz.underlying5, grownCap_ge _ _ _ _, grownCap_le_maxLen _ _ _ _ hs, fun j hj => Lib.bytesWorld_at_old w _ s j hj, Lib.bytesWorld_size w _ s, rfl, rfl, rfl, fun t ht => Lib.bytesWorld_cell w _ s t ht⟩
theorem bAt_index {s : ByteArray} {i : Nat} (hi : i < s.size) (w : World) : (Instr.index 9 (.string s) (.int .i64 i)).run Tryz.prog w = .ok (.int .u8 (bAt s i).toNat) w := by
  rw [run_index_string w 9 s .i64 i Tryz.underlying9, dif_pos ⟨by omega, by omega⟩]
  have := bAt_eq s i hi
  simp [this]
theorem bAt0 {s : ByteArray} (h : s.size = 1) (w : World) : (Instr.index 9 (.string s) (.int .i64 0)).run Tryz.prog w = .ok (.int .u8 (bAt s 0).toNat) w := bAt_index (s := s) (i := 0) (by omega) w
/-- The table at its beginning: no byte is replaced; v: the row of what is to be replaced. -/
@[irreducible] def tab0 (v : Value) : Array Value := (Array.replicate 256 (.slice none 0 0)).push v
theorem tab0_size (v : Value) : (tab0 v).size = 257 := by unfold tab0; simp
theorem tab0_at (v : Value) (k : Nat) (hk : k < 257) : (tab0 v)[k]? = some (if k = 256 then v else .slice none 0 0) := by
  unfold tab0
  rw [Array.getElem?_push, Array.size_replicate]
  by_cases h : k = 256
  · rw [if_pos h, if_pos h]
  · rw [if_neg h, if_neg h, Array.getElem?_replicate, if_pos (by omega)]
set_option maxRecDepth 100000 in
theorem built_tab (A : Option Addr) (n c : Nat) : Tryz.prog.built 298 [(1, .slice A n c)] = some (tab0 (.slice A n c)) := by
  unfold tab0
  kernel_rfl
theorem tab0_one (A : Option Addr) (n c : Nat) : (tab0 (.slice A n c)).all (·.oneCell') = true := by
  unfold tab0
  rw [Array.all_push, Bool.and_eq_true]
  exact ⟨by rw [Array.all_replicate]; rfl, rfl⟩
/-- The zero table. -/
@[irreducible] def zt : Array Value := Array.replicate 257 (.slice none 0 0)
theorem zt_size : zt.size = 257 := by unfold zt; simp
theorem zt_set (v : Value) : zt.toList.set 256 v = (tab0 v).toList := by
  unfold zt tab0
  apply List.ext_getElem?
  intro i
  rw [List.getElem?_set, Array.getElem?_toList, Array.getElem?_toList, Array.getElem?_push, Array.getElem?_replicate, Array.getElem?_replicate]
  simp only [Array.length_toList, Array.size_replicate]
  by_cases h : i = 256
  · subst h; simp
  · rw [if_neg (fun e => h e.symm), if_neg h]
    by_cases h2 : i < 256
    · rw [if_pos h2, if_pos (by omega)]
    · rw [if_neg h2, if_neg (by omega)]
theorem zero_tab : (∀ w, (zeroValue 298).run Tryz.prog w = .ok (.agg zt) w) ∧ (Tryz.prog.info? 298).map (·.size) = some 257 := by
  unfold zt
  exact zero_of_info (P := Tryz.prog) (t := 298) (v := .agg ((Array.replicate 257 (.slice none 0 0)))) (n := 257) (by kernel_rfl)
set_option maxRecDepth 100000 in
set_option maxHeartbeats 3200000 in
theorem build_str (P : Nat → ByteArray) (n : Nat) (hp : Prs P n) (h1 : all1 P n = false) (b q o c : Nat) (w : World) (hc : w.cell? ⟨b, 4, none⟩ = some (.slice (some ⟨q, o, none⟩) (2 * n : Nat) c)) (hP : ∀ i, i < 2 * n → w.cell? ⟨q, o + i, none⟩ = some (.string (P i))) :
    Calls Tryz.prog 137 #[.pointer (some ⟨b, 0, none⟩)] w fun e w' => e = .returned (.iface 299 (.pointer (some ⟨w.heap.size + 1, 0, none⟩))) ∧ Below w.heap.size w w' ∧ ∃ g f, Tb P n n w.heap.size g f w' := by
  obtain ⟨N, hN⟩ : ∃ N, N = 2 * n := ⟨_, rfl⟩
  rw [← hN] at hc hP
  have hNb : N ≤ 200 := by have := hp.n100; omega
  have hne : ((N : Int) == 2) = false := by have := hp.n2; simp; omega
  have HN := hide hN
  clear hN
  go_enter Tryz.func137, Tryz.ntmps137
  go_wp2_with fail
  go_loopw [4, 5] (L1 P n w) (fun _ v5 _ => N - (intOf v5).toNat)
  case atStart => exact ⟨0, 0, hide rfl, Nat.zero_le _, rfl, rfl, rfl⟩
  case round =>
    obtain ⟨m, k, hm, hk, rfl, rfl, hw⟩ := hrel
    have hw := hw.symm
    subst hw
    by_cases hlt : k < n
    · have HLT := hide hlt
      have hm1 : m + 1 < N := by have := hm.out; have := HN.out; omega
      have hmi : (m : Int) < N := by omega
      have hmi1 : (m : Int) + 1 < N := by omega
      clear hlt
      have a0 := hP m (by omega)
      have a1 := hP (m + 1) (by omega)
      have hs0 : (P m).size = 1 := by rw [hm.out]; exact hp.old k HLT.out
      have hs0' : (((P m).size : Int) != 1) = false := by rw [hs0]; rfl
      obtain ⟨t, ht⟩ : ∃ t, t = decide ((P (m + 1)).size = 1) := ⟨_, rfl⟩
      have ht' : (((P (m + 1)).size : Int) != 1) = !t := by rw [ht]; by_cases h : (P (m + 1)).size = 1 <;> simp [h]; omega
      have hb1 := (hp.new k HLT.out).2
      rw [← hm.out] at hb1
      have HT := hide ht
      clear ht
      have hfin : t = false → all1 P (k + 1) = false := fun e => by rw [all1_succ, ← hm.out, ← HT.out, e, Bool.and_false]
      have hfin2 : t = true → all1 P (k + 1) = all1 P k := fun e => by rw [all1_succ, ← hm.out, ← HT.out, e, Bool.and_true]
      cases t
      · go_wp2_with fail
        go_roundw
        case rel => exact ⟨m + 2, k + 1, hide (by rw [hm.out]; omega), HLT.out, by go_num, by rw [hfin rfl], rfl⟩
        case measure => simp [intOf]; omega
      · go_wp2_with fail
        go_roundw
        case rel => exact ⟨m + 2, k + 1, hide (by rw [hm.out]; omega), HLT.out, by go_num, by rw [hfin2 rfl], rfl⟩
        case measure => simp [intOf]; omega
    · obtain rfl : k = n := by omega
      have hmN : m = N := by rw [hm.out, HN.out]
      subst hmN
      rw [h1]
      have hq : (m : Int) / 2 = k := by have := HN.out; omega
      obtain ⟨i9, hi9, hz9, hsz9, hby9⟩ : ∃ i, Tryz.prog.info? 9 = some i ∧ i.zero = some (.string ⟨#[]⟩) ∧ i.size = 1 ∧ i.bytes = 16 := info_parts (by kernel_rfl)
      have hmk := run_makeSlice (P := Tryz.prog) (w := w) 27 9 i9 _ Tryz.underlying27 hi9 hz9 .i64 .i64 0 k (by omega) (by omega) (by have := hp.n100; rw [hsz9]; simp; omega) (by have := hp.n100; rw [hby9]; omega) (by have := hp.n100; omega)
      simp only [Int.toNat_natCast, hsz9, Nat.mul_one, Int.toNat_zero] at hmk
      obtain ⟨hz2, hz3⟩ := zero_tab
      have hst := run_storeCells_new (P := Tryz.prog) (w.alloc (.cells (madeCells #[.string ⟨#[]⟩] k) 9)) 298 zt (tab0 (.slice (some ⟨w.heap.size, 0, none⟩) 0 k)) (by rw [hz3, tab0_size]) (by rw [zt_size, tab0_size]) (tab0_one _ _ _)
      rw [← zt_set, alloc_size] at hst
      have hzs := zt_size
      go_wp2_with fail
      clear hst hz2 hmk
      go_loopw [12] (L4 P k w) (fun v12 _ => ((intOf v12) + 2).toNat)
      case atStart =>
        have hrow := (World.rowIs_made w (.string ⟨#[]⟩) k 9).alloc (.cells (tab0 (.slice (some ⟨w.heap.size, 0, none⟩) 0 k)) 298)
        have htab := World.rowIs_alloc (w.alloc (.cells (madeCells #[.string ⟨#[]⟩] k) 9)) (tab0 (.slice (some ⟨w.heap.size, 0, none⟩) 0 k)) 298 (fun x => if x = 256 then .slice (some ⟨w.heap.size, 0, none⟩) 0 k else .slice none 0 0) (fun x hx => tab0_at _ x (by rw [tab0_size] at hx; exact hx))
        rw [tab0_size, alloc_size] at htab
        refine ⟨0, _, Nat.zero_le _, rfl, hide (by have := HN.out; omega), ((Below.refl _ w).alloc (Nat.le_refl _) _).alloc (by rw [alloc_size]; omega) _, _, _, hrow, htab, rfl, fun t ht => by omega, fun i h1 h2 => by omega, fun x hx _ => if_neg (by omega)⟩
      case round =>
        obtain ⟨j, m', hj, rfl, hm', hB, g, f, hT⟩ := hrel
        by_cases hlt : j < k
        · obtain ⟨mm, hmm⟩ : ∃ mm, mm = 2 * (k - 1 - j) := ⟨_, rfl⟩
          obtain rfl : m' = (mm : Int) := by have := hm'.out; omega
          have hmk : mm + 1 < m := by have := HN.out; omega
          have a0 : wr.cell? ⟨q, o + mm, none⟩ = some (.string (P mm)) := (hB.cell (p := ⟨q, o + mm, none⟩) (World.block_lt_of_cell? w ⟨q, o + mm, none⟩ (hP mm (by omega)))).trans (hP mm (by omega))
          have a1 : wr.cell? ⟨q, o + (mm + 1), none⟩ = some (.string (P (mm + 1))) := (hB.cell (p := ⟨q, o + (mm + 1), none⟩) (World.block_lt_of_cell? w ⟨q, o + (mm + 1), none⟩ (hP (mm + 1) (by omega)))).trans (hP (mm + 1) (by omega))
          have hmi1 : (mm : Int) + 1 < m := by omega
          have hmi : (mm : Int) < m := by omega
          have hs0 : (P mm).size = 1 := by rw [hmm]; exact hp.old _ (by omega)
          have hix := bAt0 hs0
          obtain ⟨X, hX⟩ : ∃ X, X = (bAt (P mm) 0).toNat := ⟨_, rfl⟩
          have hX1 : X < 256 := by rw [hX]; exact UInt8.toNat_lt _
          rw [← hX] at hix
          have HX := hide hX
          clear hX
          have g0 : g X = .slice none 0 0 := hT.off X hX1 (fun i h1 h2 e => by
            have := hp.two i (k - 1 - j) h2 (by omega) (by rw [← hmm]; exact UInt8.toNat_inj.1 (by rw [e, HX.out]))
            omega)
          have c0 : wr.cell? ⟨w.heap.size + 1, X, none⟩ = some (.slice none 0 0) := by rw [← g0]; exact hT.tab.cell (by omega)
          have c256 : wr.cell? ⟨w.heap.size + 1, 256, none⟩ = some (.slice (some ⟨w.heap.size, 0, none⟩) j k) := by rw [← hT.g256]; exact hT.tab.cell (by omega)
          have heq := eql_nil none 0 0
          have hcv : (convert 46 9 (.slice (some ⟨wr.heap.size, 0, none⟩) 1 1)).run Tryz.prog (wr.alloc (.cells #[.int .u8 X] 5)) = .ok (.string (P mm)) (wr.alloc (.cells #[.int .u8 X] 5)) := by
            have := run_convert_bytes_arg (P := Tryz.prog) (wr.alloc (.cells #[.int .u8 X] 5)) 46 5 Tryz.underlying46 Tryz.underlying5 wr.heap.size 0 1 1 [(X : Int)] rfl (fun i hi => by
              obtain rfl : i = 0 := by omega
              exact cell_of_row _ _ 0 _ _ _ (heap_alloc_new wr _)) _ Tryz.underlying9
            rw [HX.out, nums1 hs0, ← HX.out] at this
            exact this
          have hap := fun ty => apR (w := (wr.alloc (.cells #[.int .u8 X] 5)).alloc (.cells #[.string (P mm)] 9)) (S := wr.heap.size + 1) (s := P mm) ((hT.row.alloc _).alloc _) hlt (by
            have := cell_of_row _ _ 0 _ _ _ (heap_alloc_new (wr.alloc (.cells #[.int .u8 X] 5)) (.cells #[.string (P mm)] 9))
            rwa [alloc_size] at this) ty
          have hT3 := (((hT.tab.alloc (.cells #[.int .u8 X] 5)).alloc (.cells #[.string (P mm)] 9)).setOther (a := ⟨w.heap.size, j, none⟩) (by simp) (.string (P mm)))
          have z3 := hT3.frozen 256
          have c3 := hT3.cell (i := 256) (by omega)
          have hT4 := hT3.set 256 (.slice (some ⟨w.heap.size, 0, none⟩) (j + 1) k)
          obtain ⟨Q, cQ, W5, hQ, hcQ, hsc, hcm, hold, hsz5, hos5, htp5, hou5, hbQ⟩ := conv_bytes ((((wr.alloc (.cells #[.int .u8 X] 5)).alloc (.cells #[.string (P mm)] 9)).setCell ⟨w.heap.size, j, none⟩ (.string (P mm))).setCell ⟨w.heap.size + 1, 256, none⟩ (.slice (some ⟨w.heap.size, 0, none⟩) (j + 1) k)) (P (mm + 1)) (by have := hp.new (k - 1 - j) (by omega); rw [← hmm] at this; unfold maxLen; omega)
          have hT5 := hT4.of_block (hold _ (by rw [hQ]; exact hT4.lt))
          have z5 := hT5.frozen X
          have c5 := hT5.cell (i := X) (by omega)
          have HMM := hide hmm
          clear hmm
          go_wp2_with (at_builtin; refine Lib.wpList_append_run _ rfl _ _ _ _ rfl _ _ rfl rfl _ _ (hap _) ?_)
          go_roundw
          have hst := Tb.step (mm := mm) (X := X) (wr := wr) (W5 := W5) hp hT hlt HMM.out HX.out Q cQ (.cells #[.int .u8 X] 5) (.cells #[.string (P mm)] 9) hQ hsc hcm hold hsz5 hos5 htp5 hou5 hbQ
          have hQ2 : Q = wr.heap.size + 1 + 1 := by rw [hQ, set_size, set_size, alloc_size, alloc_size]
          rw [hQ2] at hst
          obtain ⟨⟨g', f', hT'⟩, hkp⟩ := hst
          case rel => exact ⟨j + 1, _, hlt, rfl, hide (by have := hm'.out; omega), hkp.below hB hB.size, g', f', hT'⟩
          case measure => simp [intOf]; omega
        · obtain rfl : j = k := by omega
          obtain rfl : m' = -2 := by have := hm'.out; omega
          go_wp2_with fail
          go_ret
          exact ⟨rfl, hB, g, f, hT⟩
end Go.Proofs.YtiaibkbflmamgaaGreatDoor.rp
