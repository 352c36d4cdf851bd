/-
  Byte rows of the call's own: a row of bytes read as a list; append of one byte, of a string's bytes; the conversions there and back.
-/
import Derived.Test.YtelddhhhgjfmeaaDoorL3
import Derived.Test.YtelddhhhgjfmeaaDoorProg
import Derived.Laws.BytesArg
import Derived.Lib.ConvBytes
import Derived.Laws.Concat
namespace Go.Proofs.YtelddhhhgjfmeaaDoor
open Go.RowKit

theorem bytT : SlTy Tryd.prog 82 5 (.int .u8 0) 1 1 :=
  ⟨Tryd.underlying82, info_parts (by kernel_rfl), rfl, by decide, by decide⟩

def bcells (l : List UInt8) : List Value := l.map fun b => Value.int .u8 b.toNat
theorem bcells_app (l m : List UInt8) : bcells (l ++ m) = bcells l ++ bcells m := by simp [bcells]
theorem bcells_len (l : List UInt8) : (bcells l).length = l.length := by simp [bcells]
theorem bcells_at {l : List UInt8} {j : Nat} (h : j < l.length) : (bcells l)[j]? = some (.int .u8 (l[j]).toNat) := by
  simp [bcells, h]

/-- The string of a list of bytes. -/
def bstr (l : List UInt8) : ByteArray := ⟨l.toArray⟩
theorem bstr_size (l : List UInt8) : (bstr l).size = l.length := by simp [bstr, ByteArray.size]
theorem bstr_app (l m : List UInt8) : bstr l ++ bstr m = bstr (l ++ m) := ByteArray.mk_append_mk _ _
theorem bstr_toList (s : ByteArray) : bstr s.data.toList = s := by
  obtain ⟨⟨l⟩⟩ := s
  rfl
theorem bstr_data (l : List UInt8) : (bstr l).data.toList = l := rfl

theorem strOfNums_bytes (l : List UInt8) : strOfNums (l.map fun b => (b.toNat : Int)) = bstr l := by
  unfold strOfNums bstr
  congr 2
  induction l with
  | nil => rfl
  | cons a l ih => simp at ih ⊢; exact ih

set_option maxRecDepth 100000 in
/-- 'string(out)'. -/
theorem bconv {w : World} {B n c : Nat} {A : Option Addr} {l : List UInt8} (h : w.ownsRow B 5 1 (.slice A n c) n (bcells l)) :
    (convert 82 9 (.slice A n c)).run Tryd.prog w = .ok (.string (bstr l)) w := by
  have hl : l.length = n := by have := h.1; rw [bcells_len, Nat.mul_one] at this; exact this
  rcases Nat.eq_zero_or_pos n with h0 | h0
  · obtain rfl : l = [] := List.eq_nil_of_length_eq_zero (by omega)
    subst h0
    rcases h.2 with ⟨h1, _⟩ | ⟨g, cap, cur, h1, _⟩
    · injection h1 with h1 _ _
      subst h1
      rw [run_convert_bytes_nil w 82 5 Tryd.underlying82 Tryd.underlying5 _ _ _ Tryd.underlying9]
      rfl
    · injection h1 with h1 _ _
      subst h1
      rw [run_convert_bytes_arg w 82 5 Tryd.underlying82 Tryd.underlying5 g 0 0 c [] rfl (fun i hi => absurd hi (by omega)) _ Tryd.underlying9]
      rfl
  · obtain ⟨g, cap, hv, _, _⟩ := h.form h0
    injection hv with hA _ _
    subst hA
    rw [run_convert_bytes_arg w 82 5 Tryd.underlying82 Tryd.underlying5 g 0 n c (l.map fun b => (b.toNat : Int)) (by simpa using hl) (fun i hi => ?_) _ Tryd.underlying9, strOfNums_bytes]
    have hc := h.cellAt i (by omega)
    rw [Nat.zero_add, hc, bcells_at (by omega)]
    simp [List.getElem?_map, List.getElem?_eq_getElem (show i < l.length by omega)]

theorem bcells_one (x : UInt8) : (#[Value.int .u8 (x.toNat : Int)] : Array Value).toList = bcells [x] := rfl
end Go.Proofs.YtelddhhhgjfmeaaDoor
