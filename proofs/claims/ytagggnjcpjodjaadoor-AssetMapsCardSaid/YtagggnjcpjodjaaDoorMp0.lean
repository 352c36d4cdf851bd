/-
  Numbers in base 32: by strconv.FormatInt.
-/
import Derived.Test.YtagggnjcpjodjaaDoorM0
import Derived.Laws.BytesArg
import Derived.Lib.ConvBytes
import Derived.BigQuiet
import Derived.Laws.BitsAllLaws
import Derived.Deep.QuietTactic
import Derived.WalkLawsBesides
namespace Go.Proofs.YtagggnjcpjodjaaDoor.mp32
open Go.RowKit
set_option linter.unusedVariables false

def tab36 : ByteArray := ⟨#[48, 49, 50, 51, 52, 53, 54, 55, 56, 57, 97, 98, 99, 100, 101, 102, 103, 104, 105, 106, 107, 108, 109, 110, 111, 112, 113, 114, 115, 116, 117, 118, 119, 120, 121, 122]⟩
def dg (n : Int) : UInt8 := tab36.data.getD n.toNat 0
/-- The digits of a number below 32^4. -/
def b32 (u : Int) : List UInt8 :=
  if u < 32 then [dg u] else if u / 32 < 32 then [dg (u / 32), dg (u % 32)] else if u / 32 / 32 < 32 then [dg (u / 32 / 32), dg (u / 32 % 32), dg (u % 32)] else [dg (u / 32 / 32 / 32), dg (u / 32 / 32 % 32), dg (u / 32 % 32), dg (u % 32)]
def bs (l : List UInt8) : ByteArray := ⟨l.toArray⟩
theorem strOfNums_bs (l : List UInt8) : strOfNums (l.map fun b => (b.toNat : Int)) = bs l := by
  unfold strOfNums bs
  congr 2
  induction l with
  | nil => rfl
  | cons a l ih => simp at ih ⊢; exact ih
theorem str_index (s : ByteArray) (k : IntKind) (i : Int) (h0 : 0 ≤ i) (h1 : i < s.size) (w : World) :
    (Instr.index 9 (.string s) (.int k i)).run Tryd.prog w = .ok (.int .u8 ((s.data.getD i.toNat 0).toNat : Int)) w := by
  rw [run_index_string w 9 s k i Tryd.underlying9, dif_pos ⟨h0, by omega⟩]
  have hlt : i.toNat < s.data.size := by have : s.size = s.data.size := rfl; omega
  simp only [Array.getD, hlt, ↓reduceDIte]
  rfl
theorem dg_index (n : Int) (h0 : 0 ≤ n) (h1 : n ≤ 31) (w : World) :
    (Instr.index 9 (.string ⟨#[48, 49, 50, 51, 52, 53, 54, 55, 56, 57, 97, 98, 99, 100, 101, 102, 103, 104, 105, 106, 107, 108, 109, 110, 111, 112, 113, 114, 115, 116, 117, 118, 119, 120, 121, 122]⟩) (.int .u64 n)).run Tryd.prog w = .ok (.int .u8 ((dg n).toNat : Int)) w :=
  str_index tab36 .u64 n h0 (by show n < 36; omega) w
theorem bconv_arr (w : World) (b off m c : Nat) (l : List UInt8) (hl : l.length = m) (h : ∀ j, (hj : j < l.length) → w.cell? ⟨b, off + j, none⟩ = some (.int .u8 (l[j].toNat : Int))) :
    (convert 56 9 (.slice (some ⟨b, off, none⟩) m c)).run Tryd.prog w = .ok (.string (bs l)) w := by
  rw [run_convert_bytes_arg w 56 5 Tryd.underlying56 Tryd.underlying5 b off m c (l.map fun b => (b.toNat : Int)) (by simpa using hl) (fun i hi => ?_) _ Tryd.underlying9, strOfNums_bs]
  rw [h i (by omega)]
  simp [List.getElem?_map, List.getElem?_eq_getElem (show i < l.length by omega)]
set_option maxRecDepth 100000 in
theorem tz32 (w : World) (htab : w.cell? ⟨3, 31, none⟩ = some (.int .u8 5)) :
    Calls Tryd.prog 85 #[.int .u64 32] w fun e w' => e = .returned (.int .i64 5) ∧ w' = w := by
  have hb : bits BinOp.and IntKind.u64 32 (IntKind.u64.wrap (-32)) = 32 := by kernel_rfl
  have hw : IntKind.u64.wrap (32 * 285870213051353865) = 9147846817643323680 := by kernel_rfl
  go_enter Tryd.func85, Tryd.ntmps85
  go_wp2
  go_ret
  exact ⟨rfl, rfl⟩
set_option maxRecDepth 100000 in
theorem pow32 (w : World) : Calls Tryd.prog 84 #[.int .i64 32] w fun e w' => e = .returned (.bool true) ∧ w' = w := by
  have hb : bits BinOp.and IntKind.i64 32 31 = 0 := by kernel_rfl
  go_enter Tryd.func84, Tryd.ntmps84
  go_wp2
  go_ret
  exact ⟨rfl, rfl⟩
theorem and31 (u : Int) (h0 : 0 ≤ u) (hn : u < 18446744073709551616) : bits BinOp.and IntKind.u64 u 31 = u % 32 := by
  rw [u64_and u 31 h0 hn (by decide) (by decide), show (31 : Int).toNat = 31 from rfl, nat_mask5]
  omega
set_option maxHeartbeats 4000000 in
set_option maxRecDepth 100000 in
theorem fb1 (u : Int) (w : World) (hu : 0 ≤ u) (h0 : u < 32) (htab : w.cell? ⟨3, 31, none⟩ = some (.int .u8 5)) :
    Calls Tryd.prog 66 #[.slice none 0 0, .int .u64 u, .int .i64 32, .bool false, .bool false] w fun e w' => e = .returned (.tuple #[.slice none 0 0, .string (bs [dg (u)])]) ∧ Below w.heap.size w w' := by
  have c0 : ¬ 32 ≤ u := by omega
  have i0 := dg_index (u) (by omega) (by omega)
  obtain ⟨d0, e0⟩ : ∃ d, d = dg (u) := ⟨_, rfl⟩
  rw [← e0] at i0 ⊢
  clear e0
  have hz : ∀ w : World, (zeroValue 103).run Tryd.prog w = .ok (.agg (Array.replicate 65 (.int .u8 0))) w := fun _ => by kernel_rfl
  have hcv : ∀ (w' : World) (b c : Nat), w'.cell? ⟨b, 64, none⟩ = some (.int .u8 (d0.toNat : Int)) → (convert 56 9 (.slice (some ⟨b, 64, none⟩) 1 c)).run Tryd.prog w' = .ok (.string (bs [d0])) w' := fun w' b c q0 =>
    bconv_arr w' b 64 1 c [d0] rfl (fun j hj => by
      have hj : j < 1 := hj
      match j, hj with
      | 0, _ => exact q0)
  go_enter Tryd.func66, Tryd.ntmps66
  go_wp2_with (first
    | (go_at_call 85; refine (tz32 _ (by first | exact htab | exact (World.cell?_alloc_past _ _ _ (World.block_lt_of_cell? _ _ htab)).trans htab)).mono ?_; rintro e w1 ⟨rfl, rfl⟩)
    | (go_at_call 84; refine (pow32 _).mono ?_; rintro e w1 ⟨rfl, rfl⟩))
  go_rounds 1
  go_wp2
  go_ret2
  exact ⟨rfl, Below.alloc (Below.refl _ _) (Nat.le_refl _) _⟩
set_option maxHeartbeats 4000000 in
set_option maxRecDepth 100000 in
theorem fb2 (u : Int) (w : World) (hu : 0 ≤ u) (h0 : ¬ u < 32) (h1 : u / 32 < 32) (htab : w.cell? ⟨3, 31, none⟩ = some (.int .u8 5)) :
    Calls Tryd.prog 66 #[.slice none 0 0, .int .u64 u, .int .i64 32, .bool false, .bool false] w fun e w' => e = .returned (.tuple #[.slice none 0 0, .string (bs [dg (u / 32), dg (u % 32)])]) ∧ Below w.heap.size w w' := by
  have c0 : 32 ≤ u := by omega
  have c1 : ¬ 32 ≤ u / 32 := by omega
  have a0 := and31 (u) (by omega) (by omega)
  have i0 := dg_index (u % 32) (by omega) (by omega)
  obtain ⟨d0, e0⟩ : ∃ d, d = dg (u % 32) := ⟨_, rfl⟩
  rw [← e0] at i0 ⊢
  clear e0
  have i1 := dg_index (u / 32) (by omega) (by omega)
  obtain ⟨d1, e1⟩ : ∃ d, d = dg (u / 32) := ⟨_, rfl⟩
  rw [← e1] at i1 ⊢
  clear e1
  have hz : ∀ w : World, (zeroValue 103).run Tryd.prog w = .ok (.agg (Array.replicate 65 (.int .u8 0))) w := fun _ => by kernel_rfl
  have hcv : ∀ (w' : World) (b c : Nat), w'.cell? ⟨b, 63, none⟩ = some (.int .u8 (d1.toNat : Int)) → w'.cell? ⟨b, 64, none⟩ = some (.int .u8 (d0.toNat : Int)) → (convert 56 9 (.slice (some ⟨b, 63, none⟩) 2 c)).run Tryd.prog w' = .ok (.string (bs [d1, d0])) w' := fun w' b c q0 q1 =>
    bconv_arr w' b 63 2 c [d1, d0] rfl (fun j hj => by
      have hj : j < 2 := hj
      match j, hj with
      | 0, _ => exact q0
      | 1, _ => exact q1)
  go_enter Tryd.func66, Tryd.ntmps66
  go_wp2_with (first
    | (go_at_call 85; refine (tz32 _ (by first | exact htab | exact (World.cell?_alloc_past _ _ _ (World.block_lt_of_cell? _ _ htab)).trans htab)).mono ?_; rintro e w1 ⟨rfl, rfl⟩)
    | (go_at_call 84; refine (pow32 _).mono ?_; rintro e w1 ⟨rfl, rfl⟩))
  go_rounds 2
  go_wp2
  go_ret2
  exact ⟨rfl, Below.alloc (Below.refl _ _) (Nat.le_refl _) _⟩
set_option maxHeartbeats 4000000 in
set_option maxRecDepth 100000 in
theorem fb3 (u : Int) (w : World) (hu : 0 ≤ u) (h0 : ¬ u < 32) (h1 : ¬ u / 32 < 32) (h2 : u / 32 / 32 < 32) (htab : w.cell? ⟨3, 31, none⟩ = some (.int .u8 5)) :
    Calls Tryd.prog 66 #[.slice none 0 0, .int .u64 u, .int .i64 32, .bool false, .bool false] w fun e w' => e = .returned (.tuple #[.slice none 0 0, .string (bs [dg (u / 32 / 32), dg (u / 32 % 32), dg (u % 32)])]) ∧ Below w.heap.size w w' := by
  have c0 : 32 ≤ u := by omega
  have c1 : 32 ≤ u / 32 := by omega
  have c2 : ¬ 32 ≤ u / 32 / 32 := by omega
  have a0 := and31 (u) (by omega) (by omega)
  have i0 := dg_index (u % 32) (by omega) (by omega)
  obtain ⟨d0, e0⟩ : ∃ d, d = dg (u % 32) := ⟨_, rfl⟩
  rw [← e0] at i0 ⊢
  clear e0
  have a1 := and31 (u / 32) (by omega) (by omega)
  have i1 := dg_index (u / 32 % 32) (by omega) (by omega)
  obtain ⟨d1, e1⟩ : ∃ d, d = dg (u / 32 % 32) := ⟨_, rfl⟩
  rw [← e1] at i1 ⊢
  clear e1
  have i2 := dg_index (u / 32 / 32) (by omega) (by omega)
  obtain ⟨d2, e2⟩ : ∃ d, d = dg (u / 32 / 32) := ⟨_, rfl⟩
  rw [← e2] at i2 ⊢
  clear e2
  have hz : ∀ w : World, (zeroValue 103).run Tryd.prog w = .ok (.agg (Array.replicate 65 (.int .u8 0))) w := fun _ => by kernel_rfl
  have hcv : ∀ (w' : World) (b c : Nat), w'.cell? ⟨b, 62, none⟩ = some (.int .u8 (d2.toNat : Int)) → w'.cell? ⟨b, 63, none⟩ = some (.int .u8 (d1.toNat : Int)) → w'.cell? ⟨b, 64, none⟩ = some (.int .u8 (d0.toNat : Int)) → (convert 56 9 (.slice (some ⟨b, 62, none⟩) 3 c)).run Tryd.prog w' = .ok (.string (bs [d2, d1, d0])) w' := fun w' b c q0 q1 q2 =>
    bconv_arr w' b 62 3 c [d2, d1, d0] rfl (fun j hj => by
      have hj : j < 3 := hj
      match j, hj with
      | 0, _ => exact q0
      | 1, _ => exact q1
      | 2, _ => exact q2)
  go_enter Tryd.func66, Tryd.ntmps66
  go_wp2_with (first
    | (go_at_call 85; refine (tz32 _ (by first | exact htab | exact (World.cell?_alloc_past _ _ _ (World.block_lt_of_cell? _ _ htab)).trans htab)).mono ?_; rintro e w1 ⟨rfl, rfl⟩)
    | (go_at_call 84; refine (pow32 _).mono ?_; rintro e w1 ⟨rfl, rfl⟩))
  go_rounds 3
  go_wp2
  go_ret2
  exact ⟨rfl, Below.alloc (Below.refl _ _) (Nat.le_refl _) _⟩
set_option maxHeartbeats 4000000 in
set_option maxRecDepth 100000 in
theorem fb4 (u : Int) (w : World) (hu : 0 ≤ u) (h0 : ¬ u < 32) (h1 : ¬ u / 32 < 32) (h2 : ¬ u / 32 / 32 < 32) (h3 : u / 32 / 32 / 32 < 32) (htab : w.cell? ⟨3, 31, none⟩ = some (.int .u8 5)) :
    Calls Tryd.prog 66 #[.slice none 0 0, .int .u64 u, .int .i64 32, .bool false, .bool false] w fun e w' => e = .returned (.tuple #[.slice none 0 0, .string (bs [dg (u / 32 / 32 / 32), dg (u / 32 / 32 % 32), dg (u / 32 % 32), dg (u % 32)])]) ∧ Below w.heap.size w w' := by
  have c0 : 32 ≤ u := by omega
  have c1 : 32 ≤ u / 32 := by omega
  have c2 : 32 ≤ u / 32 / 32 := by omega
  have c3 : ¬ 32 ≤ u / 32 / 32 / 32 := by omega
  have a0 := and31 (u) (by omega) (by omega)
  have i0 := dg_index (u % 32) (by omega) (by omega)
  obtain ⟨d0, e0⟩ : ∃ d, d = dg (u % 32) := ⟨_, rfl⟩
  rw [← e0] at i0 ⊢
  clear e0
  have a1 := and31 (u / 32) (by omega) (by omega)
  have i1 := dg_index (u / 32 % 32) (by omega) (by omega)
  obtain ⟨d1, e1⟩ : ∃ d, d = dg (u / 32 % 32) := ⟨_, rfl⟩
  rw [← e1] at i1 ⊢
  clear e1
  have a2 := and31 (u / 32 / 32) (by omega) (by omega)
  have i2 := dg_index (u / 32 / 32 % 32) (by omega) (by omega)
  obtain ⟨d2, e2⟩ : ∃ d, d = dg (u / 32 / 32 % 32) := ⟨_, rfl⟩
  rw [← e2] at i2 ⊢
  clear e2
  have i3 := dg_index (u / 32 / 32 / 32) (by omega) (by omega)
  obtain ⟨d3, e3⟩ : ∃ d, d = dg (u / 32 / 32 / 32) := ⟨_, rfl⟩
  rw [← e3] at i3 ⊢
  clear e3
  have hz : ∀ w : World, (zeroValue 103).run Tryd.prog w = .ok (.agg (Array.replicate 65 (.int .u8 0))) w := fun _ => by kernel_rfl
  have hcv : ∀ (w' : World) (b c : Nat), w'.cell? ⟨b, 61, none⟩ = some (.int .u8 (d3.toNat : Int)) → w'.cell? ⟨b, 62, none⟩ = some (.int .u8 (d2.toNat : Int)) → w'.cell? ⟨b, 63, none⟩ = some (.int .u8 (d1.toNat : Int)) → w'.cell? ⟨b, 64, none⟩ = some (.int .u8 (d0.toNat : Int)) → (convert 56 9 (.slice (some ⟨b, 61, none⟩) 4 c)).run Tryd.prog w' = .ok (.string (bs [d3, d2, d1, d0])) w' := fun w' b c q0 q1 q2 q3 =>
    bconv_arr w' b 61 4 c [d3, d2, d1, d0] rfl (fun j hj => by
      have hj : j < 4 := hj
      match j, hj with
      | 0, _ => exact q0
      | 1, _ => exact q1
      | 2, _ => exact q2
      | 3, _ => exact q3)
  go_enter Tryd.func66, Tryd.ntmps66
  go_wp2_with (first
    | (go_at_call 85; refine (tz32 _ (by first | exact htab | exact (World.cell?_alloc_past _ _ _ (World.block_lt_of_cell? _ _ htab)).trans htab)).mono ?_; rintro e w1 ⟨rfl, rfl⟩)
    | (go_at_call 84; refine (pow32 _).mono ?_; rintro e w1 ⟨rfl, rfl⟩))
  go_rounds 4
  go_wp2
  go_ret2
  exact ⟨rfl, Below.alloc (Below.refl _ _) (Nat.le_refl _) _⟩
set_option maxHeartbeats 2000000 in
set_option maxRecDepth 100000 in
theorem formatInt_any (u : Int) (w : World) (h0 : 0 ≤ u) (h1 : u < 1048576) (htab : w.cell? ⟨3, 31, none⟩ = some (.int .u8 5)) :
    Calls Tryd.prog 30 #[.int .i64 u, .int .i64 32] w fun e w' => e = .returned (.string (bs (b32 u))) ∧ Below w.heap.size w w' := by
  have HF : ∀ w : World, w.cell? ⟨3, 31, none⟩ = some (.int .u8 5) → Calls Tryd.prog 66 #[.slice none 0 0, .int .u64 u, .int .i64 32, .bool false, .bool false] w fun e w' => e = .returned (.tuple #[.slice none 0 0, .string (bs (b32 u))]) ∧ Below w.heap.size w w' := fun w ht => by
    unfold b32
    by_cases c1 : u < 32
    · rw [if_pos c1]; exact fb1 u w h0 c1 ht
    · rw [if_neg c1]
      by_cases c2 : u / 32 < 32
      · rw [if_pos c2]; exact fb2 u w h0 c1 c2 ht
      · rw [if_neg c2]
        by_cases c3 : u / 32 / 32 < 32
        · rw [if_pos c3]; exact fb3 u w h0 c1 c2 c3 ht
        · rw [if_neg c3]; exact fb4 u w h0 c1 c2 c3 (by omega) ht
  have HF := hide HF
  have hlt : ¬ u < 0 := by omega
  go_enter Tryd.func30, Tryd.ntmps30
  go_wp2_with (first
    | (go_at_call 66; refine (HF.out _ htab).mono ?_; rintro e w1 ⟨rfl, hb1⟩)
    | go_in)
  go_ret
  exact ⟨rfl, hb1⟩
end Go.Proofs.YtagggnjcpjodjaaDoor.mp32
