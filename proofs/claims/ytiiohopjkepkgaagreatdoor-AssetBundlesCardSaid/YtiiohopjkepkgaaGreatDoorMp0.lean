/-
  Routes of a value: what is reckoned; numbers as text; own rows of strings. Numbers in base 32: by strconv.FormatInt.
-/
import Derived.Test.YtiiohopjkepkgaaGreatDoorN18
import Derived.Test.YtiiohopjkepkgaaGreatDoorPV
import Derived.Test.YtiiohopjkepkgaaGreatDoorQ7
import Derived.Test.YtiiohopjkepkgaaGreatDoorQ8
import Derived.Test.YtiiohopjkepkgaaGreatDoorShelf
import Derived.Lib.AppendIntMem
import Derived.Lib.ItoaLen
import Derived.Laws.BytesArg
import Derived.Lib.ConvBytes
import Derived.BigQuiet
import Derived.Laws.BitsAllLaws
import Derived.Deep.QuietTactic
import Derived.WalkLawsBesides
namespace Go.Proofs.YtiiohopjkepkgaaGreatDoor
open Go.RowKit
set_option linter.unusedVariables false
set_option linter.unusedSimpArgs false
/-- strconv.Itoa's table. -/
def P10 (w : World) : Prop := Lib.TabIs Tryz.prog w "internal/strconv.uint64pow10" .u64 Lib.pow10Tab
theorem P10.lt {w : World} (h : P10 w) : 6 + 1 ≤ w.heap.size := by
  unfold P10 Lib.TabIs World.var? at h
  rw [show Tryz.prog.globalNamed "internal/strconv.uint64pow10" = some 6 by kernel_rfl] at h
  simp only [Option.bind_some] at h
  rcases Nat.lt_or_ge 6 w.heap.size with h' | h'
  · exact h'
  · simp [Array.getElem?_eq_none h'] at h
theorem P10.kp {B : Nat} {w w' : World} (h : P10 w) (hB : 6 < B) (hk : Kp B noS w w') : P10 w' := by
  unfold P10 Lib.TabIs World.var? at h ⊢
  rw [show Tryz.prog.globalNamed "internal/strconv.uint64pow10" = some 6 by kernel_rfl] at h ⊢
  simp only [Option.bind_some] at h ⊢
  rw [hk.block _ hB (fun h => h)]
  exact h
def decS (n : Int) : ByteArray := ⟨(Lib.itoa n).toArray⟩
theorem decS_size (n : Int) (h0 : -9223372036854775808 ≤ n) (h1 : n ≤ 9223372036854775807) : (decS n).size ≤ 21 := by
  have := Lib.itoa_length_le n h0 h1
  simpa [decS, ByteArray.size] using this
theorem decS_small {n : Nat} (h : n ≤ 1000000) : (decS n).size ≤ 21 := decS_size n (by omega) (by omega)
/-- A row of strings as data. -/
def rowS (a : List ByteArray) (i _ : Nat) : DD := dS (a.getD i ⟨#[]⟩)
theorem rowS_app (a b : List ByteArray) (i j : Nat) : (if i < a.length then rowS a i j else rowS b (i - a.length) j) = rowS (a ++ b) i j := by
  unfold rowS
  split
  · rename_i h; simp [List.getD, List.getElem?_append_left h]
  · rename_i h; simp [List.getD, List.getElem?_append_right (Nat.le_of_not_lt h)]
theorem encStrs_row (a : List ByteArray) : encStrs a = .sl 1 16 a.length (rowS a) := rfl
/-- A route with one more part. -/
def joinR (r p : ByteArray) : ByteArray := if r = ⟨#[]⟩ then p else r ++ ⟨#[46]⟩ ++ p
def partK (k : Int) (ks : List ByteArray) (i : Nat) : ByteArray := if k = 6 then ks.getD i ⟨#[]⟩ else decS i
mutual
def rts : Vu → ByteArray → List ByteArray
  | .mk k _ _ _ l ks, r => if l.length = 0 then [r] else rtsL k ks l 0 r
def rtsL (k : Int) (ks : List ByteArray) : List Vu → Nat → ByteArray → List ByteArray
  | [], _, _ => []
  | x :: l, i, r => rts x (joinR r (partK k ks i)) ++ rtsL k ks l (i + 1) r
end
theorem rts_eq (v : Vu) (r : ByteArray) : rts v r = if v.items.length = 0 then [r] else rtsL v.kind v.keys v.items 0 r := by
  cases v; simp only [rts, Vu.items, Vu.kind, Vu.keys] <;> rfl
/-- The routes through the first i items. -/
def rtsP (v : Vu) (r : ByteArray) : Nat → List ByteArray
  | 0 => []
  | i + 1 => rtsP v r i ++ rts (v.items.getD i .zero) (joinR r (partK v.kind v.keys i))
theorem rtsP_rest (v : Vu) (r : ByteArray) : ∀ i, i ≤ v.items.length → rtsP v r i ++ rtsL v.kind v.keys (v.items.drop i) i r = rtsL v.kind v.keys v.items 0 r
  | 0, _ => by simp [rtsP]
  | i + 1, h => by
    have ih := rtsP_rest v r i (by omega)
    rw [drop_cons v.items .zero i (by omega), rtsL] at ih
    rw [rtsP, List.append_assoc]
    exact ih
theorem rtsP_all (v : Vu) (r : ByteArray) (h : ¬ v.items.length = 0) : rtsP v r v.items.length = rts v r := by
  have := rtsP_rest v r v.items.length (Nat.le_refl _)
  rw [List.drop_of_length_le (Nat.le_refl _)] at this
  rw [rts_eq, if_neg h, ← this, rtsL, List.append_nil]
mutual
theorem rts_len : ∀ (v : Vu) (r : ByteArray), (rts v r).length ≤ cnt v
  | .mk k b i t l ks, r => by
    rw [rts_eq, cnt_eq]
    have := rtsL_len k ks l 0 r
    show (if l.length = 0 then [r] else rtsL k ks l 0 r).length ≤ cntL l + 1
    by_cases h : l.length = 0
    · rw [if_pos h]; simp
    · rw [if_neg h]; omega
theorem rtsL_len (k : Int) (ks : List ByteArray) : ∀ (l : List Vu) (i : Nat) (r : ByteArray), (rtsL k ks l i r).length ≤ cntL l
  | [], _, _ => by simp [rtsL]
  | x :: l, i, r => by
    have h1 := rts_len x (joinR r (partK k ks i))
    have h2 := rtsL_len k ks l (i + 1) r
    simp only [rtsL, List.length_append, cntL]
    omega
end
theorem rtsP_len (v : Vu) (r : ByteArray) : ∀ i, i ≤ v.items.length → (rtsP v r i).length ≤ cntL (v.items.take i)
  | 0, _ => by simp [rtsP, cntL]
  | i + 1, h => by
    have ih := rtsP_len v r i (by omega)
    have h1 := rts_len (v.items.getD i .zero) (joinR r (partK v.kind v.keys i))
    rw [take_snoc v.items .zero i (by omega), cntL_app, rtsP, List.length_append]
    omega
theorem joinR_size (r p : ByteArray) : (joinR r p).size ≤ r.size + 1 + p.size := by
  unfold joinR
  split
  · omega
  · rw [ByteArray.size_append, ByteArray.size_append]
    show r.size + 1 + p.size ≤ _
    omega
theorem partK_size {k : Int} {ks : List ByteArray} {i n : Nat} (hi : i ≤ 1000000) (hk : ∀ s ∈ ks, s.size ≤ n) (hn : 21 ≤ n) : (partK k ks i).size ≤ n := by
  unfold partK
  split
  · rcases Nat.lt_or_ge i ks.length with h | h
    · exact hk _ (getD_mem ks ⟨#[]⟩ i h)
    · have : ks.getD i ⟨#[]⟩ = ⟨#[]⟩ := by simp [List.getD, List.getElem?_eq_none h]
      rw [this]
      exact Nat.zero_le _
  · have := decS_small hi
    omega
section
variable (E : Env)
set_option maxRecDepth 100000
theorem itoa_sp (hP : ∀ w, E.G w → P10 w) (n : Int) : Sp (cx Tryz.prog mixed tyT_ok E) 187 [i64 n] (dS (decS n)) ∨ ¬ (-9223372036854775808 ≤ n ∧ n ≤ 9223372036854775807) := by
  by_cases h : -9223372036854775808 ≤ n ∧ n ≤ 9223372036854775807
  · refine .inl (Sp.of_v (vs := [.int .i64 n]) ⟨_, _, Tryz.func187, by kernel_rfl, rfl⟩ ?_ (fun w hG => (Tryz.strconv_Itoa n h.1 h.2 w (hP w hG)).mono fun e w' ⟨he, k, os, hw⟩ => ⟨he, by subst hw; exact Lib.below_grow _ w (Nat.le_refl _) k os⟩))
    have := decS_size n h.1 h.2
    exact decide_eq_true (by show (decS n).size ≤ _; unfold maxLen; omega)
  · exact .inr h
theorem itoaN_sp (hP : ∀ w, E.G w → P10 w) (n : Nat) (hn : n ≤ 1000000) : Sp (cx Tryz.prog mixed tyT_ok E) 187 [i64 n] (dS (decS n)) := (itoa_sp E hP n).resolve_right (fun h => h ⟨by omega, by omega⟩)
theorem row_strA (a : List ByteArray) (r : ByteArray) (i j : Nat) (hi : i < a.length + 1) (hj : j < 1) : Dle (cx Tryz.prog mixed tyT_ok E) (if i < a.length then rowS a i j else ([dS r] : List DD).getD ((i - a.length + 0) * 1 + j) .opq) (rowS (a ++ [r]) i j) := by
  obtain rfl : j = 0 := by omega
  split
  · rename_i h
    refine Dle.of_eq ?_
    unfold rowS
    simp [List.getD, List.getElem?_append_left h]
  · obtain rfl : i = a.length := by omega
    rw [Nat.sub_self]
    refine Dle.of_eq ?_
    unfold rowS
    simp [List.getD]
end
end Go.Proofs.YtiiohopjkepkgaaGreatDoor
namespace Go.Proofs.YtiiohopjkepkgaaGreatDoor.mp32
open Go.RowKit
set_option linter.unusedVariables false

def tab36 : ByteArray := ⟨#[48, 49, 50, 51, 52, 53, 54, 55, 56, 57, 97, 98, 99, 100, 101, 102, 103, 104, 105, 106, 107, 108, 109, 110, 111, 112, 113, 114, 115, 116, 117, 118, 119, 120, 121, 122]⟩
def dg (n : Int) : UInt8 := tab36.data.getD n.toNat 0
/-- The digits of a number below 32^4. -/
def b32 (u : Int) : List UInt8 :=
  if u < 32 then [dg u] else if u / 32 < 32 then [dg (u / 32), dg (u % 32)] else if u / 32 / 32 < 32 then [dg (u / 32 / 32), dg (u / 32 % 32), dg (u % 32)] else [dg (u / 32 / 32 / 32), dg (u / 32 / 32 % 32), dg (u / 32 % 32), dg (u % 32)]
def bs (l : List UInt8) : ByteArray := ⟨l.toArray⟩
theorem strOfNums_bs (l : List UInt8) : strOfNums (l.map fun b => (b.toNat : Int)) = bs l := by
  unfold strOfNums bs
  congr 2
  induction l with
  | nil => rfl
  | cons a l ih => simp at ih ⊢; exact ih
theorem str_index (s : ByteArray) (k : IntKind) (i : Int) (h0 : 0 ≤ i) (h1 : i < s.size) (w : World) :
    (Instr.index 9 (.string s) (.int k i)).run Tryz.prog w = .ok (.int .u8 ((s.data.getD i.toNat 0).toNat : Int)) w := by
  rw [run_index_string w 9 s k i Tryz.underlying9, dif_pos ⟨h0, by omega⟩]
  have hlt : i.toNat < s.data.size := by have : s.size = s.data.size := rfl; omega
  simp only [Array.getD, hlt, ↓reduceDIte]
  rfl
theorem dg_index (n : Int) (h0 : 0 ≤ n) (h1 : n ≤ 31) (w : World) :
    (Instr.index 9 (.string ⟨#[48, 49, 50, 51, 52, 53, 54, 55, 56, 57, 97, 98, 99, 100, 101, 102, 103, 104, 105, 106, 107, 108, 109, 110, 111, 112, 113, 114, 115, 116, 117, 118, 119, 120, 121, 122]⟩) (.int .u64 n)).run Tryz.prog w = .ok (.int .u8 ((dg n).toNat : Int)) w :=
  str_index tab36 .u64 n h0 (by show n < 36; omega) w
theorem bconv_arr (w : World) (b off m c : Nat) (l : List UInt8) (hl : l.length = m) (h : ∀ j, (hj : j < l.length) → w.cell? ⟨b, off + j, none⟩ = some (.int .u8 (l[j].toNat : Int))) :
    (convert 51 9 (.slice (some ⟨b, off, none⟩) m c)).run Tryz.prog w = .ok (.string (bs l)) w := by
  rw [run_convert_bytes_arg w 51 5 Tryz.underlying51 Tryz.underlying5 b off m c (l.map fun b => (b.toNat : Int)) (by simpa using hl) (fun i hi => ?_) _ Tryz.underlying9, strOfNums_bs]
  rw [h i (by omega)]
  simp [List.getElem?_map, List.getElem?_eq_getElem (show i < l.length by omega)]
set_option maxRecDepth 100000 in
theorem tz32 (w : World) (htab : w.cell? ⟨8, 31, none⟩ = some (.int .u8 5)) :
    Calls Tryz.prog 245 #[.int .u64 32] w fun e w' => e = .returned (.int .i64 5) ∧ w' = w := by
  have hb : bits BinOp.and IntKind.u64 32 (IntKind.u64.wrap (-32)) = 32 := by kernel_rfl
  have hw : IntKind.u64.wrap (32 * 285870213051353865) = 9147846817643323680 := by kernel_rfl
  go_enter Tryz.func245, Tryz.ntmps245
  go_wp2
  go_ret
  exact ⟨rfl, rfl⟩
set_option maxRecDepth 100000 in
theorem pow32 (w : World) : Calls Tryz.prog 244 #[.int .i64 32] w fun e w' => e = .returned (.bool true) ∧ w' = w := by
  have hb : bits BinOp.and IntKind.i64 32 31 = 0 := by kernel_rfl
  go_enter Tryz.func244, Tryz.ntmps244
  go_wp2
  go_ret
  exact ⟨rfl, rfl⟩
theorem and31 (u : Int) (h0 : 0 ≤ u) (hn : u < 18446744073709551616) : bits BinOp.and IntKind.u64 u 31 = u % 32 := by
  rw [u64_and u 31 h0 hn (by decide) (by decide), show (31 : Int).toNat = 31 from rfl, nat_mask5]
  omega
set_option maxHeartbeats 4000000 in
set_option maxRecDepth 100000 in
theorem fb1 (u : Int) (w : World) (hu : 0 ≤ u) (h0 : u < 32) (htab : w.cell? ⟨8, 31, none⟩ = some (.int .u8 5)) :
    Calls Tryz.prog 240 #[.slice none 0 0, .int .u64 u, .int .i64 32, .bool false, .bool false] w fun e w' => e = .returned (.tuple #[.slice none 0 0, .string (bs [dg (u)])]) ∧ Below w.heap.size w w' := by
  have c0 : ¬ 32 ≤ u := by omega
  have i0 := dg_index (u) (by omega) (by omega)
  obtain ⟨d0, e0⟩ : ∃ d, d = dg (u) := ⟨_, rfl⟩
  rw [← e0] at i0 ⊢
  clear e0
  have hz : ∀ w : World, (zeroValue 332).run Tryz.prog w = .ok (.agg (Array.replicate 65 (.int .u8 0))) w := fun _ => by kernel_rfl
  have hcv : ∀ (w' : World) (b c : Nat), w'.cell? ⟨b, 64, none⟩ = some (.int .u8 (d0.toNat : Int)) → (convert 51 9 (.slice (some ⟨b, 64, none⟩) 1 c)).run Tryz.prog w' = .ok (.string (bs [d0])) w' := fun w' b c q0 =>
    bconv_arr w' b 64 1 c [d0] rfl (fun j hj => by
      have hj : j < 1 := hj
      match j, hj with
      | 0, _ => exact q0)
  go_enter Tryz.func240, Tryz.ntmps240
  go_wp2_with (first
    | (go_at_call 245; refine (tz32 _ (by first | exact htab | exact (World.cell?_alloc_past _ _ _ (World.block_lt_of_cell? _ _ htab)).trans htab)).mono ?_; rintro e w1 ⟨rfl, rfl⟩)
    | (go_at_call 244; refine (pow32 _).mono ?_; rintro e w1 ⟨rfl, rfl⟩))
  go_rounds 1
  go_wp2
  go_ret2
  exact ⟨rfl, Below.alloc (Below.refl _ _) (Nat.le_refl _) _⟩
set_option maxHeartbeats 4000000 in
set_option maxRecDepth 100000 in
theorem fb2 (u : Int) (w : World) (hu : 0 ≤ u) (h0 : ¬ u < 32) (h1 : u / 32 < 32) (htab : w.cell? ⟨8, 31, none⟩ = some (.int .u8 5)) :
    Calls Tryz.prog 240 #[.slice none 0 0, .int .u64 u, .int .i64 32, .bool false, .bool false] w fun e w' => e = .returned (.tuple #[.slice none 0 0, .string (bs [dg (u / 32), dg (u % 32)])]) ∧ Below w.heap.size w w' := by
  have c0 : 32 ≤ u := by omega
  have c1 : ¬ 32 ≤ u / 32 := by omega
  have a0 := and31 (u) (by omega) (by omega)
  have i0 := dg_index (u % 32) (by omega) (by omega)
  obtain ⟨d0, e0⟩ : ∃ d, d = dg (u % 32) := ⟨_, rfl⟩
  rw [← e0] at i0 ⊢
  clear e0
  have i1 := dg_index (u / 32) (by omega) (by omega)
  obtain ⟨d1, e1⟩ : ∃ d, d = dg (u / 32) := ⟨_, rfl⟩
  rw [← e1] at i1 ⊢
  clear e1
  have hz : ∀ w : World, (zeroValue 332).run Tryz.prog w = .ok (.agg (Array.replicate 65 (.int .u8 0))) w := fun _ => by kernel_rfl
  have hcv : ∀ (w' : World) (b c : Nat), w'.cell? ⟨b, 63, none⟩ = some (.int .u8 (d1.toNat : Int)) → w'.cell? ⟨b, 64, none⟩ = some (.int .u8 (d0.toNat : Int)) → (convert 51 9 (.slice (some ⟨b, 63, none⟩) 2 c)).run Tryz.prog w' = .ok (.string (bs [d1, d0])) w' := fun w' b c q0 q1 =>
    bconv_arr w' b 63 2 c [d1, d0] rfl (fun j hj => by
      have hj : j < 2 := hj
      match j, hj with
      | 0, _ => exact q0
      | 1, _ => exact q1)
  go_enter Tryz.func240, Tryz.ntmps240
  go_wp2_with (first
    | (go_at_call 245; refine (tz32 _ (by first | exact htab | exact (World.cell?_alloc_past _ _ _ (World.block_lt_of_cell? _ _ htab)).trans htab)).mono ?_; rintro e w1 ⟨rfl, rfl⟩)
    | (go_at_call 244; refine (pow32 _).mono ?_; rintro e w1 ⟨rfl, rfl⟩))
  go_rounds 2
  go_wp2
  go_ret2
  exact ⟨rfl, Below.alloc (Below.refl _ _) (Nat.le_refl _) _⟩
set_option maxHeartbeats 4000000 in
set_option maxRecDepth 100000 in
theorem fb3 (u : Int) (w : World) (hu : 0 ≤ u) (h0 : ¬ u < 32) (h1 : ¬ u / 32 < 32) (h2 : u / 32 / 32 < 32) (htab : w.cell? ⟨8, 31, none⟩ = some (.int .u8 5)) :
    Calls Tryz.prog 240 #[.slice none 0 0, .int .u64 u, .int .i64 32, .bool false, .bool false] w fun e w' => e = .returned (.tuple #[.slice none 0 0, .string (bs [dg (u / 32 / 32), dg (u / 32 % 32), dg (u % 32)])]) ∧ Below w.heap.size w w' := by
  have c0 : 32 ≤ u := by omega
  have c1 : 32 ≤ u / 32 := by omega
  have c2 : ¬ 32 ≤ u / 32 / 32 := by omega
  have a0 := and31 (u) (by omega) (by omega)
  have i0 := dg_index (u % 32) (by omega) (by omega)
  obtain ⟨d0, e0⟩ : ∃ d, d = dg (u % 32) := ⟨_, rfl⟩
  rw [← e0] at i0 ⊢
  clear e0
  have a1 := and31 (u / 32) (by omega) (by omega)
  have i1 := dg_index (u / 32 % 32) (by omega) (by omega)
  obtain ⟨d1, e1⟩ : ∃ d, d = dg (u / 32 % 32) := ⟨_, rfl⟩
  rw [← e1] at i1 ⊢
  clear e1
  have i2 := dg_index (u / 32 / 32) (by omega) (by omega)
  obtain ⟨d2, e2⟩ : ∃ d, d = dg (u / 32 / 32) := ⟨_, rfl⟩
  rw [← e2] at i2 ⊢
  clear e2
  have hz : ∀ w : World, (zeroValue 332).run Tryz.prog w = .ok (.agg (Array.replicate 65 (.int .u8 0))) w := fun _ => by kernel_rfl
  have hcv : ∀ (w' : World) (b c : Nat), w'.cell? ⟨b, 62, none⟩ = some (.int .u8 (d2.toNat : Int)) → w'.cell? ⟨b, 63, none⟩ = some (.int .u8 (d1.toNat : Int)) → w'.cell? ⟨b, 64, none⟩ = some (.int .u8 (d0.toNat : Int)) → (convert 51 9 (.slice (some ⟨b, 62, none⟩) 3 c)).run Tryz.prog w' = .ok (.string (bs [d2, d1, d0])) w' := fun w' b c q0 q1 q2 =>
    bconv_arr w' b 62 3 c [d2, d1, d0] rfl (fun j hj => by
      have hj : j < 3 := hj
      match j, hj with
      | 0, _ => exact q0
      | 1, _ => exact q1
      | 2, _ => exact q2)
  go_enter Tryz.func240, Tryz.ntmps240
  go_wp2_with (first
    | (go_at_call 245; refine (tz32 _ (by first | exact htab | exact (World.cell?_alloc_past _ _ _ (World.block_lt_of_cell? _ _ htab)).trans htab)).mono ?_; rintro e w1 ⟨rfl, rfl⟩)
    | (go_at_call 244; refine (pow32 _).mono ?_; rintro e w1 ⟨rfl, rfl⟩))
  go_rounds 3
  go_wp2
  go_ret2
  exact ⟨rfl, Below.alloc (Below.refl _ _) (Nat.le_refl _) _⟩
set_option maxHeartbeats 4000000 in
set_option maxRecDepth 100000 in
theorem fb4 (u : Int) (w : World) (hu : 0 ≤ u) (h0 : ¬ u < 32) (h1 : ¬ u / 32 < 32) (h2 : ¬ u / 32 / 32 < 32) (h3 : u / 32 / 32 / 32 < 32) (htab : w.cell? ⟨8, 31, none⟩ = some (.int .u8 5)) :
    Calls Tryz.prog 240 #[.slice none 0 0, .int .u64 u, .int .i64 32, .bool false, .bool false] w fun e w' => e = .returned (.tuple #[.slice none 0 0, .string (bs [dg (u / 32 / 32 / 32), dg (u / 32 / 32 % 32), dg (u / 32 % 32), dg (u % 32)])]) ∧ Below w.heap.size w w' := by
  have c0 : 32 ≤ u := by omega
  have c1 : 32 ≤ u / 32 := by omega
  have c2 : 32 ≤ u / 32 / 32 := by omega
  have c3 : ¬ 32 ≤ u / 32 / 32 / 32 := by omega
  have a0 := and31 (u) (by omega) (by omega)
  have i0 := dg_index (u % 32) (by omega) (by omega)
  obtain ⟨d0, e0⟩ : ∃ d, d = dg (u % 32) := ⟨_, rfl⟩
  rw [← e0] at i0 ⊢
  clear e0
  have a1 := and31 (u / 32) (by omega) (by omega)
  have i1 := dg_index (u / 32 % 32) (by omega) (by omega)
  obtain ⟨d1, e1⟩ : ∃ d, d = dg (u / 32 % 32) := ⟨_, rfl⟩
  rw [← e1] at i1 ⊢
  clear e1
  have a2 := and31 (u / 32 / 32) (by omega) (by omega)
  have i2 := dg_index (u / 32 / 32 % 32) (by omega) (by omega)
  obtain ⟨d2, e2⟩ : ∃ d, d = dg (u / 32 / 32 % 32) := ⟨_, rfl⟩
  rw [← e2] at i2 ⊢
  clear e2
  have i3 := dg_index (u / 32 / 32 / 32) (by omega) (by omega)
  obtain ⟨d3, e3⟩ : ∃ d, d = dg (u / 32 / 32 / 32) := ⟨_, rfl⟩
  rw [← e3] at i3 ⊢
  clear e3
  have hz : ∀ w : World, (zeroValue 332).run Tryz.prog w = .ok (.agg (Array.replicate 65 (.int .u8 0))) w := fun _ => by kernel_rfl
  have hcv : ∀ (w' : World) (b c : Nat), w'.cell? ⟨b, 61, none⟩ = some (.int .u8 (d3.toNat : Int)) → w'.cell? ⟨b, 62, none⟩ = some (.int .u8 (d2.toNat : Int)) → w'.cell? ⟨b, 63, none⟩ = some (.int .u8 (d1.toNat : Int)) → w'.cell? ⟨b, 64, none⟩ = some (.int .u8 (d0.toNat : Int)) → (convert 51 9 (.slice (some ⟨b, 61, none⟩) 4 c)).run Tryz.prog w' = .ok (.string (bs [d3, d2, d1, d0])) w' := fun w' b c q0 q1 q2 q3 =>
    bconv_arr w' b 61 4 c [d3, d2, d1, d0] rfl (fun j hj => by
      have hj : j < 4 := hj
      match j, hj with
      | 0, _ => exact q0
      | 1, _ => exact q1
      | 2, _ => exact q2
      | 3, _ => exact q3)
  go_enter Tryz.func240, Tryz.ntmps240
  go_wp2_with (first
    | (go_at_call 245; refine (tz32 _ (by first | exact htab | exact (World.cell?_alloc_past _ _ _ (World.block_lt_of_cell? _ _ htab)).trans htab)).mono ?_; rintro e w1 ⟨rfl, rfl⟩)
    | (go_at_call 244; refine (pow32 _).mono ?_; rintro e w1 ⟨rfl, rfl⟩))
  go_rounds 4
  go_wp2
  go_ret2
  exact ⟨rfl, Below.alloc (Below.refl _ _) (Nat.le_refl _) _⟩
end Go.Proofs.YtiiohopjkepkgaaGreatDoor.mp32
