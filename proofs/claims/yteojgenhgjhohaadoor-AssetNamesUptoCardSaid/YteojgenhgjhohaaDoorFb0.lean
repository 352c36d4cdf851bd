/-
  Numbers in base 16: what strconv.formatBits needs.
-/
import Derived.Test.YteojgenhgjhohaaDoorL0
import Derived.Test.YteojgenhgjhohaaDoorChecked
import Derived.ProofKit
import Derived.WalkKit
import Derived.Laws.BytesArg
import Derived.Lib.ConvBytes
import Derived.BigQuiet
import Derived.Laws.BitsAllLaws
import Derived.Deep.QuietTactic
import Derived.WalkLawsBesides
namespace Go.Proofs.YteojgenhgjhohaaDoor.fb
open Go.RowKit
set_option linter.unusedVariables false
def tab36 : ByteArray := ⟨#[48, 49, 50, 51, 52, 53, 54, 55, 56, 57, 97, 98, 99, 100, 101, 102, 103, 104, 105, 106, 107, 108, 109, 110, 111, 112, 113, 114, 115, 116, 117, 118, 119, 120, 121, 122]⟩
def dg (n : Int) : UInt8 := tab36.data.getD n.toNat 0
def bs (l : List UInt8) : ByteArray := ⟨l.toArray⟩
theorem strOfNums_bs (l : List UInt8) : strOfNums (l.map fun b => (b.toNat : Int)) = bs l := by
  unfold strOfNums bs
  congr 2
  induction l with
  | nil => rfl
  | cons a l ih => simp at ih ⊢; exact ih
theorem str_index (s : ByteArray) (k : IntKind) (i : Int) (h0 : 0 ≤ i) (h1 : i < s.size) (w : World) :
    (Instr.index 9 (.string s) (.int k i)).run Tryd.prog w = .ok (.int .u8 ((s.data.getD i.toNat 0).toNat : Int)) w := by
  rw [run_index_string w 9 s k i Tryd.underlying9, dif_pos ⟨h0, by omega⟩]
  have hlt : i.toNat < s.data.size := by have : s.size = s.data.size := rfl; omega
  simp only [Array.getD, hlt, ↓reduceDIte]
  rfl
theorem dg_index (n : Int) (h0 : 0 ≤ n) (h1 : n ≤ 15) (w : World) :
    (Instr.index 9 (.string ⟨#[48, 49, 50, 51, 52, 53, 54, 55, 56, 57, 97, 98, 99, 100, 101, 102, 103, 104, 105, 106, 107, 108, 109, 110, 111, 112, 113, 114, 115, 116, 117, 118, 119, 120, 121, 122]⟩) (.int .u64 n)).run Tryd.prog w = .ok (.int .u8 ((dg n).toNat : Int)) w :=
  str_index tab36 .u64 n h0 (by show n < 36; omega) w
theorem bconv_arr (w : World) (b off m c : Nat) (l : List UInt8) (hl : l.length = m) (h : ∀ j, (hj : j < l.length) → w.cell? ⟨b, off + j, none⟩ = some (.int .u8 (l[j].toNat : Int))) :
    (convert 44 9 (.slice (some ⟨b, off, none⟩) m c)).run Tryd.prog w = .ok (.string (bs l)) w := by
  rw [run_convert_bytes_arg w 44 5 Tryd.underlying44 Tryd.underlying5 b off m c (l.map fun b => (b.toNat : Int)) (by simpa using hl) (fun i hi => ?_) _ Tryd.underlying9, strOfNums_bs]
  rw [h i (by omega)]
  simp [List.getElem?_map, List.getElem?_eq_getElem (show i < l.length by omega)]
set_option maxRecDepth 100000 in
theorem tz16 (w : World) (htab : w.cell? ⟨5, 15, none⟩ = some (.int .u8 4)) :
    Calls Tryd.prog 79 #[.int .u64 16] w fun e w' => e = .returned (.int .i64 4) ∧ w' = w := by
  have hb : bits BinOp.and IntKind.u64 16 (IntKind.u64.wrap (-16)) = 16 := by kernel_rfl
  have hw : IntKind.u64.wrap (16 * 285870213051353865) = 4573923408821661840 := by kernel_rfl
  go_enter Tryd.func79, Tryd.ntmps79
  go_wp2
  go_ret
  exact ⟨rfl, rfl⟩
set_option maxRecDepth 100000 in
theorem pow16 (w : World) : Calls Tryd.prog 78 #[.int .i64 16] w fun e w' => e = .returned (.bool true) ∧ w' = w := by
  have hb : bits BinOp.and IntKind.i64 16 15 = 0 := by kernel_rfl
  go_enter Tryd.func78, Tryd.ntmps78
  go_wp2
  go_ret
  exact ⟨rfl, rfl⟩
theorem nat_mask4' (m : Nat) : m &&& 15 = m % 16 := Nat.and_two_pow_sub_one_eq_mod m 4
theorem and15 (u : Int) (h0 : 0 ≤ u) (hn : u < 18446744073709551616) : bits BinOp.and IntKind.u64 u 15 = u % 16 := by
  rw [u64_and u 15 h0 hn (by decide) (by decide), show (15 : Int).toNat = 15 from rfl, nat_mask4']
  omega
end Go.Proofs.YteojgenhgjhohaaDoor.fb
