/-
  A digit in base 16: by the index of a string of digits, and by strconv.FormatInt.
-/
import Derived.Test.YtkldjnopapipfaaDoorImg
namespace Go.Proofs.YtkldjnopapipfaaDoor.img
open Go.RowKit
set_option linter.unusedVariables false

def tab36 : ByteArray := ⟨#[48, 49, 50, 51, 52, 53, 54, 55, 56, 57, 97, 98, 99, 100, 101, 102, 103, 104, 105, 106, 107, 108, 109, 110, 111, 112, 113, 114, 115, 116, 117, 118, 119, 120, 121, 122]⟩
def tab16 : ByteArray := ⟨#[48, 49, 50, 51, 52, 53, 54, 55, 56, 57, 97, 98, 99, 100, 101, 102]⟩
def hxd (n : Int) : UInt8 := tab36.data.getD n.toNat 0

theorem hxd16 : ∀ n : Fin 16, tab16.data.getD n.val 0 = tab36.data.getD n.val 0 := by decide

theorem str_index (s : ByteArray) (k : IntKind) (i : Int) (h0 : 0 ≤ i) (h1 : i < s.size) (w : World) :
    (Instr.index 9 (.string s) (.int k i)).run Tryd.prog w = .ok (.int .u8 ((s.data.getD i.toNat 0).toNat : Int)) w := by
  rw [run_index_string w 9 s k i Tryd.underlying9, dif_pos ⟨h0, by omega⟩]
  have hlt : i.toNat < s.data.size := by have : s.size = s.data.size := rfl; omega
  simp only [Array.getD, hlt, ↓reduceDIte]
  rfl

theorem hex_index (n : Int) (h0 : 0 ≤ n) (h1 : n ≤ 15) (w : World) :
    (Instr.index 9 (.string ⟨#[48, 49, 50, 51, 52, 53, 54, 55, 56, 57, 97, 98, 99, 100, 101, 102]⟩) (.int .i64 n)).run Tryd.prog w = .ok (.int .u8 ((hxd n).toNat : Int)) w := by
  have h := str_index tab16 .i64 n h0 (by show n < 16; omega) w
  have e := hxd16 ⟨n.toNat, by omega⟩
  simp only at e
  rw [e] at h
  exact h
theorem hex36_index (n : Int) (h0 : 0 ≤ n) (h1 : n ≤ 15) (w : World) :
    (Instr.index 9 (.string ⟨#[48, 49, 50, 51, 52, 53, 54, 55, 56, 57, 97, 98, 99, 100, 101, 102, 103, 104, 105, 106, 107, 108, 109, 110, 111, 112, 113, 114, 115, 116, 117, 118, 119, 120, 121, 122]⟩) (.int .u64 n)).run Tryd.prog w = .ok (.int .u8 ((hxd n).toNat : Int)) w :=
  str_index tab36 .u64 n h0 (by show n < 36; omega) w

theorem bconv_arr (w : World) (b off m c : Nat) (l : List UInt8) (hl : l.length = m) (h : ∀ j, (hj : j < l.length) → w.cell? ⟨b, off + j, none⟩ = some (.int .u8 (l[j].toNat : Int))) :
    (convert 30 9 (.slice (some ⟨b, off, none⟩) m c)).run Tryd.prog w = .ok (.string (bstr l)) w := by
  rw [run_convert_bytes_arg w 30 5 Tryd.underlying30 Tryd.underlying5 b off m c (l.map fun b => (b.toNat : Int)) (by simpa using hl) (fun i hi => ?_) _ Tryd.underlying9, strOfNums_bytes]
  rw [h i (by omega)]
  simp [List.getElem?_map, List.getElem?_eq_getElem (show i < l.length by omega)]

set_option maxRecDepth 100000 in
theorem tz16 (w : World) (htab : w.cell? ⟨2, 15, none⟩ = some (.int .u8 4)) :
    Calls Tryd.prog 22 #[.int .u64 16] w fun e w' => e = .returned (.int .i64 4) ∧ w' = w := by
  have hb : bits BinOp.and IntKind.u64 16 (IntKind.u64.wrap (-16)) = 16 := by kernel_rfl
  have hw : IntKind.u64.wrap (16 * 285870213051353865) = 4573923408821661840 := by kernel_rfl
  go_enter Tryd.func22, Tryd.ntmps22
  go_wp2
  go_ret
  exact ⟨rfl, rfl⟩

set_option maxRecDepth 100000 in
theorem pow16 (w : World) : Calls Tryd.prog 21 #[.int .i64 16] w fun e w' => e = .returned (.bool true) ∧ w' = w := by
  have hb : bits BinOp.and IntKind.i64 16 15 = 0 := by kernel_rfl
  go_enter Tryd.func21, Tryd.ntmps21
  go_wp2
  go_ret
  exact ⟨rfl, rfl⟩

set_option maxHeartbeats 2000000 in
set_option maxRecDepth 100000 in
theorem formatBits_any (n : Int) (w : World) (h0 : 0 ≤ n) (h1 : n ≤ 15) (htab : w.cell? ⟨2, 15, none⟩ = some (.int .u8 4)) :
    Calls Tryd.prog 17 #[.slice none 0 0, .int .u64 n, .int .i64 16, .bool false, .bool false] w fun e w' => e = .returned (.tuple #[.slice none 0 0, .string (bstr [hxd n])]) ∧ Below w.heap.size w w' := by
  have hix := hex36_index n h0 h1
  obtain ⟨d, hd⟩ : ∃ d, d = hxd n := ⟨_, rfl⟩
  rw [← hd] at hix ⊢
  clear hd
  have hlt : ¬ 16 ≤ n := by omega
  have hz : ∀ w : World, (zeroValue 44).run Tryd.prog w = .ok (.agg (Array.replicate 65 (.int .u8 0))) w := fun _ => by kernel_rfl
  have hcv : ∀ (w' : World) (b c : Nat), w'.cell? ⟨b, 64, none⟩ = some (.int .u8 (d.toNat : Int)) → (convert 30 9 (.slice (some ⟨b, 64, none⟩) 1 c)).run Tryd.prog w' = .ok (.string (bstr [d])) w' := fun w' b c h =>
    bconv_arr w' b 64 1 c [d] rfl (fun j hj => by obtain rfl : j = 0 := by simp at hj; omega
                                                  exact h)
  go_enter Tryd.func17, Tryd.ntmps17
  go_wp2_with (first
    | (go_at_call 22; refine (tz16 _ (by first | exact htab | exact (World.cell?_alloc_past _ _ _ (World.block_lt_of_cell? _ _ htab)).trans htab)).mono ?_; rintro e w1 ⟨rfl, rfl⟩)
    | (go_at_call 21; refine (pow16 _).mono ?_; rintro e w1 ⟨rfl, rfl⟩))
  go_rounds 1
  go_wp2
  go_ret2
  exact ⟨rfl, Below.alloc (Below.refl _ _) (Nat.le_refl _) _⟩

set_option maxHeartbeats 1000000 in
set_option maxRecDepth 100000 in
theorem hexInt_any (n : Int) (w : World) (h0 : 0 ≤ n) (h1 : n ≤ 15) (htab : w.cell? ⟨2, 15, none⟩ = some (.int .u8 4)) :
    Calls Tryd.prog 9 #[.int .i64 n, .int .i64 16] w fun e w' => e = .returned (.string (bstr [hxd n])) ∧ Below w.heap.size w w' := by
  have HF := hide (fun w htab => formatBits_any n w h0 h1 htab)
  have hlt : ¬ n < 0 := by omega
  go_enter Tryd.func9, Tryd.ntmps9
  go_wp2_with (first
    | (go_at_call 17; refine (HF.out _ htab).mono ?_; rintro e w1 ⟨rfl, hb1⟩)
    | go_in)
  go_ret
  exact ⟨rfl, hb1⟩
end Go.Proofs.YtkldjnopapipfaaDoor.img
