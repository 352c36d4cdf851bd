/-
  Plain: the eight digits of a number of 32 bits in base 16, and a digest's step. Plain: a digit of a digest, as the program takes it.
-/
import Derived.Test.YteojgenhgjhohaaDoorFb0
import Derived.Test.YteojgenhgjhohaaDoorDg1
namespace Go.Proofs.YteojgenhgjhohaaDoor.dg
open Go.RowKit Go.Proofs.YteojgenhgjhohaaDoor.fb
set_option linter.unusedVariables false
set_option linter.unusedSimpArgs false
def hexL (u : Int) : List UInt8 :=
  if u < 16 then [dg u] else if u / 16 < 16 then [dg (u / 16), dg (u % 16)]
  else if u / 16 / 16 < 16 then [dg (u / 16 / 16), dg (u / 16 % 16), dg (u % 16)]
  else if u / 16 / 16 / 16 < 16 then [dg (u / 16 / 16 / 16), dg (u / 16 / 16 % 16), dg (u / 16 % 16), dg (u % 16)]
  else if u / 16 / 16 / 16 / 16 < 16 then [dg (u / 16 / 16 / 16 / 16), dg (u / 16 / 16 / 16 % 16), dg (u / 16 / 16 % 16), dg (u / 16 % 16), dg (u % 16)]
  else if u / 16 / 16 / 16 / 16 / 16 < 16 then [dg (u / 16 / 16 / 16 / 16 / 16), dg (u / 16 / 16 / 16 / 16 % 16), dg (u / 16 / 16 / 16 % 16), dg (u / 16 / 16 % 16), dg (u / 16 % 16), dg (u % 16)]
  else if u / 16 / 16 / 16 / 16 / 16 / 16 < 16 then [dg (u / 16 / 16 / 16 / 16 / 16 / 16), dg (u / 16 / 16 / 16 / 16 / 16 % 16), dg (u / 16 / 16 / 16 / 16 % 16), dg (u / 16 / 16 / 16 % 16), dg (u / 16 / 16 % 16), dg (u / 16 % 16), dg (u % 16)]
  else [dg (u / 16 / 16 / 16 / 16 / 16 / 16 / 16), dg (u / 16 / 16 / 16 / 16 / 16 / 16 % 16), dg (u / 16 / 16 / 16 / 16 / 16 % 16), dg (u / 16 / 16 / 16 / 16 % 16), dg (u / 16 / 16 / 16 % 16), dg (u / 16 / 16 % 16), dg (u / 16 % 16), dg (u % 16)]
def nib (u : Int) : Nat → UInt8
  | 0 => dg (u % 16)
  | n + 1 => nib (u / 16) n
def hex8 (u : Int) : List UInt8 := [nib u 7, nib u 6, nib u 5, nib u 4, nib u 3, nib u 2, nib u 1, nib u 0]
theorem hexL_len (u : Int) : 1 ≤ (hexL u).length ∧ (hexL u).length ≤ 8 := by
  unfold hexL
  repeat' split
  all_goals simp only [List.length_cons, List.length_nil]; omega
set_option maxHeartbeats 1000000 in
theorem hexL_pad (u : Int) (h0 : 0 ≤ u) (h1 : u < 4294967296) : List.replicate (8 - (hexL u).length) 48 ++ hexL u = hex8 u := by
  unfold hexL
  have l : ∀ v : Int, 0 ≤ v → v < 16 → dg v = dg (v % 16) := fun v a b => by rw [Int.emod_eq_of_lt a b]
  have z : ∀ v : Int, 0 ≤ v → v < 16 → v / 16 = 0 := fun v a b => by omega
  repeat' split
  all_goals simp only [List.length_cons, List.length_nil, hex8, nib]
  · rename_i a
    have e1 := z u h0 a
    simp only [e1, l u h0 a]
    rfl
  · rename_i a b
    have e1 := z (u / 16) (by omega) b
    simp only [e1, l (u / 16) (by omega) b]
    rfl
  · rename_i a b c
    have e1 := z (u / 16 / 16) (by omega) c
    simp only [e1, l (u / 16 / 16) (by omega) c]
    rfl
  · rename_i a b c d
    have e1 := z (u / 16 / 16 / 16) (by omega) d
    simp only [e1, l (u / 16 / 16 / 16) (by omega) d]
    rfl
  · rename_i a b c d e
    have e1 := z (u / 16 / 16 / 16 / 16) (by omega) e
    simp only [e1, l (u / 16 / 16 / 16 / 16) (by omega) e]
    rfl
  · rename_i a b c d e f
    have e1 := z (u / 16 / 16 / 16 / 16 / 16) (by omega) f
    simp only [e1, l (u / 16 / 16 / 16 / 16 / 16) (by omega) f]
    rfl
  · rename_i a b c d e f g
    have e1 := z (u / 16 / 16 / 16 / 16 / 16 / 16) (by omega) g
    simp only [e1, l (u / 16 / 16 / 16 / 16 / 16 / 16) (by omega) g]
    rfl
  · rename_i a b c d e f g
    have e1 : u / 16 / 16 / 16 / 16 / 16 / 16 / 16 < 16 := by omega
    rw [l (u / 16 / 16 / 16 / 16 / 16 / 16 / 16) (by omega) e1]
    rfl
end Go.Proofs.YteojgenhgjhohaaDoor.dg
namespace Go.Proofs.YteojgenhgjhohaaDoor.dg
open Go.RowKit Go.Proofs.YteojgenhgjhohaaDoor.fb
set_option linter.unusedVariables false
set_option linter.unusedSimpArgs false
def vd (x : Int) (m : Nat) : Int := IntKind.u32.wrap ((BitVec.ofInt IntKind.u32.bits (x.fdiv (2 ^ min (28 - 4 * (m : Int)).toNat IntKind.u32.bits)) &&& BitVec.ofInt IntKind.u32.bits 15).toNat : Int)
theorem and15w (a : Int) (h0 : 0 ≤ a) (h1 : a < 4294967296) : IntKind.u32.wrap ((BitVec.ofInt IntKind.u32.bits a &&& BitVec.ofInt IntKind.u32.bits 15).toNat : Int) = a % 16 := by
  have e1 : (BitVec.ofInt 32 a).toNat = a.toNat := by rw [BitVec.toNat_ofInt]; omega
  have e2 : (BitVec.ofInt 32 a &&& BitVec.ofInt 32 15).toNat = a.toNat % 16 := by
    rw [BitVec.toNat_and, e1]
    exact Nat.and_two_pow_sub_one_eq_mod a.toNat 4
  show IntKind.u32.wrap ((BitVec.ofInt 32 a &&& BitVec.ofInt 32 15).toNat : Int) = a % 16
  rw [e2]
  have e3 : ((a.toNat % 16 : Nat) : Int) = a % 16 := by omega
  rw [e3]
  have : ∀ n : Int, 0 ≤ n → n < 16 → IntKind.u32.wrap n = n := fun n a b => by
    rw [IntKind.wrap_u32]
    omega
  exact this _ (by omega) (by omega)
def hexS : ByteArray := ⟨#[48, 49, 50, 51, 52, 53, 54, 55, 56, 57, 97, 98, 99, 100, 101, 102]⟩
theorem hexS_at : ∀ n : Fin 16, bAt hexS n.val = dg (n.val : Int) := by decide
theorem vd_eq (x : Int) (m : Nat) (h0 : 0 ≤ x) (h1 : x < 4294967296) (hm : m < 8) : vd x m = x / 2 ^ (28 - 4 * m) % 16 := by
  unfold vd
  have e : (28 - 4 * (m : Int)).toNat = 28 - 4 * m := by omega
  rw [e, show min (28 - 4 * m) IntKind.u32.bits = 28 - 4 * m from Nat.min_eq_left (by show 28 - 4 * m ≤ 32; omega), Int.fdiv_eq_ediv_of_nonneg _ (Int.le_of_lt (Int.pow_pos (by decide)))]
  refine and15w _ (Int.ediv_nonneg h0 (Int.le_of_lt (Int.pow_pos (by decide)))) (Int.lt_of_le_of_lt (Int.ediv_le_self _ h0) h1)
theorem vd_rng (x : Int) (m : Nat) (h0 : 0 ≤ x) (h1 : x < 4294967296) (hm : m < 8) : 0 ≤ vd x m ∧ vd x m < 16 := by
  rw [vd_eq x m h0 h1 hm]
  omega
theorem vd_at (x : Int) (m : Nat) (h0 : 0 ≤ x) (h1 : x < 4294967296) (hm : m < 8) : bAt hexS (vd x m).toNat = (hex8 x).getD m 0 := by
  have hr := vd_rng x m h0 h1 hm
  have e := vd_eq x m h0 h1 hm
  obtain ⟨n, hn⟩ : ∃ n, n = vd x m := ⟨_, rfl⟩
  rw [← hn] at hr e ⊢
  have a := hexS_at ⟨n.toNat, by omega⟩
  have e2 : ((n.toNat : Nat) : Int) = n := by omega
  simp only [e2] at a
  rw [a, e]
  clear a e2 hr hn e
  obtain rfl | rfl | rfl | rfl | rfl | rfl | rfl | rfl : m = 0 ∨ m = 1 ∨ m = 2 ∨ m = 3 ∨ m = 4 ∨ m = 5 ∨ m = 6 ∨ m = 7 := by omega
  all_goals
    simp only [hex8, nib, List.getD_cons_zero, List.getD_cons_succ]
    congr 1 <;> omega
end Go.Proofs.YteojgenhgjhohaaDoor.dg
