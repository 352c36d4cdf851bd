/-
  asset.ImageString and the reference's ImageStringOf: the same bytes.
-/
import Derived.Test.YtkldjnopapipfaaDoorHex
import Derived.Test.YtkldjnopapipfaaDoorBuf
import Derived.Test.YtkldjnopapipfaaDoorShelf
import Derived.Deep.RegionHeld3
import Derived.Deep.DrawnRows
import Derived.StillTailTactics
import Derived.IntWalk
namespace Go.Proofs.YtkldjnopapipfaaDoor.img
open Go.RowKit
set_option linter.unusedVariables false
attribute [local go_sem ↓] Go.wp_at_zero Go.wp_at_succ

/-- The bytes of the first k levels. -/
def rowsB (a : Nat) (l : List Int) : Nat → List UInt8
  | 0 => []
  | k + 1 => rowsB a l k ++ [hxd (l.getD k 0)] ++ (if (k + 1) % a = 0 then [10] else [])
def imgB (a b : Nat) (l : List Int) (k : Nat) : List UInt8 := ([105, 109, 97, 103, 101, 32] ++ Lib.decDigits a ++ [32] ++ Lib.decDigits b ++ [10]) ++ rowsB a l k
theorem dig_len : ∀ a : Fin 100, (Lib.decDigits a.val).length ≤ 2 := by decide +kernel
theorem rowsB_len (a : Nat) (l : List Int) : ∀ k, (rowsB a l k).length ≤ 2 * k
  | 0 => Nat.le_refl _
  | k + 1 => by
    have := rowsB_len a l k
    simp only [rowsB, List.length_append, List.length_singleton]
    split <;> simp <;> omega
theorem imgB_len (a b : Nat) (l : List Int) (k : Nat) (ha : a < 100) (hb : b < 100) (hk : k ≤ 4096) : (imgB a b l k).length ≤ 10000 := by
  have h1 : (Lib.decDigits a).length ≤ 2 := dig_len ⟨a, ha⟩
  have h2 : (Lib.decDigits b).length ≤ 2 := dig_len ⟨b, hb⟩
  have h3 := rowsB_len a l k
  simp only [imgB, List.length_append, List.length_cons, List.length_nil]
  omega
theorem imgB_succ (a b : Nat) (l : List Int) (k : Nat) (x : Int) (hx : l[k]? = some x) : imgB a b l (k + 1) = if (k + 1) % a = 0 then imgB a b l k ++ [hxd x] ++ [10] else imgB a b l k ++ [hxd x] := by
  have : l.getD k 0 = x := by simp [List.getD, hx]
  unfold imgB
  simp only [rowsB, this]
  split <;> simp
/-- What an image's string is. -/
def StrPost (F : Int) (s : ByteArray) (w : World) (e : Ending) (w' : World) : Prop :=
  e = .returned (.tuple #[.string (if F = 0 then s else ⟨#[]⟩), .int .i64 F]) ∧ Below w.heap.size w w'
theorem imF_ok {a b : Int} {n : Nat} {l : List Int} (h : imF a b n l = 0) : side a ∧ side b ∧ (n : Int) = a * b ∧ ∀ x ∈ l, 0 ≤ x ∧ x ≤ 15 := by
  unfold imF at h
  by_cases h1 : side a ∧ side b
  · rw [if_neg (by simp [h1])] at h
    by_cases h2 : (n : Int) = a * b
    · rw [if_neg (by simp [h2])] at h
      by_cases h3 : l.all lev = true
      · refine ⟨h1.1, h1.2, h2, fun x hx => ?_⟩
        have := List.all_eq_true.1 h3 x hx
        exact of_decide_eq_true this
      · rw [if_neg h3] at h
        omega
    · rw [if_pos h2] at h
      omega
  · rw [if_pos h1] at h
    omega

/-- The call's own block of the image. -/
structure OwnM (w W : World) (a b : Int) (u : Value) : Prop where
  below : Below w.heap.size w W
  s0 : W.cell? ⟨w.heap.size, 0, none⟩ = some (.int .i64 a)
  s1 : W.cell? ⟨w.heap.size, 1, none⟩ = some (.int .i64 b)
  s2 : W.cell? ⟨w.heap.size, 2, none⟩ = some u
theorem OwnM.keep {w W W' : World} {a b : Int} {u : Value} (h : OwnM w W a b u) (hb : Below W.heap.size W W') : OwnM w W' a b u := ⟨h.below.trans (hb.mono h.below.size), keept hb h.s0, keept hb h.s1, keept hb h.s2⟩
theorem OwnM.app {w W W' : World} {a b : Int} {u : Value} {o : Obj} (h : OwnM w W a b u) (hb : Below (w.heap.size + 1) (W.alloc o) W') : OwnM w W' a b u := by
  have h' := h.keep (Below.alloc (Below.refl _ W) (Nat.le_refl _) o)
  exact ⟨h'.below.trans (hb.mono (by omega)), (hb.cell (p := ⟨w.heap.size, 0, none⟩) (by simp)).trans h'.s0, (hb.cell (p := ⟨w.heap.size, 1, none⟩) (by simp)).trans h'.s1, (hb.cell (p := ⟨w.heap.size, 2, none⟩) (by simp)).trans h'.s2⟩
theorem OwnM.start (w : World) (a b : Int) (u : Value) (t : TypeId) : OwnM w (w.alloc (.cells #[.int .i64 a, .int .i64 b, u] t)) a b u :=
  ⟨Below.alloc (Below.refl _ _) (Nat.le_refl _) _, (World.cell?_alloc_at _ _ _ _ rfl).trans rfl, (World.cell?_alloc_at _ _ _ _ rfl).trans rfl, (World.cell?_alloc_at _ _ _ _ rfl).trans rfl⟩
theorem at_world {K : Act → World → Prop} {a : Act} {W : World} (F : World → Prop) (hF : F W) (h : ∀ W', F W' → K a W') : K a W := h W hF

theorem keep2 {w w' : World} {b0 b1 : Addr} {v0 v1 : Value} (hb : Below w.heap.size w w') (h : w.cell? b0 = some v0 ∧ w.cell? b1 = some v1) : w'.cell? b0 = some v0 ∧ w'.cell? b1 = some v1 := ⟨keept hb h.1, keept hb h.2⟩
theorem below_drewN {B : Nat} {a w : World} (k : Nat) (h : Below B a w) : Below B a (w.drewN k) := ⟨h.os, h.tape, h.output, h.size, h.block⟩
theorem add_one {y : ByteArray} {l m : List UInt8} {d : UInt8} (hy : y = bstr l) (hm : m = l ++ [d]) (hl : m.length ≤ 10000) : y ++ bstr [d] = bstr m ∧ (y ++ bstr [d]).size ≤ 10000 := by
  have e : y ++ bstr [d] = bstr m := by rw [hy, hm, bstr_app]
  exact ⟨e, by rw [e, bstr_size]; exact hl⟩
theorem add_two {y : ByteArray} {l m : List UInt8} {d : UInt8} (hy : y = bstr l) (hm : m = l ++ [d] ++ [10]) (hl : m.length ≤ 10000) : y ++ bstr [d] ++ ⟨#[10]⟩ = bstr m ∧ (y ++ bstr [d] ++ ⟨#[10]⟩).size ≤ 10000 := by
  have e : y ++ bstr [d] ++ ⟨#[10]⟩ = bstr m := by rw [hy, hm, bstr_app]; exact bstr_app _ _
  exact ⟨e, by rw [e, bstr_size]; exact hl⟩
def RelR (x : Nat → List UInt8) (n : Nat) (w : World) (a b : Int) (u : Value) (v5 v26 : Value) (wr : World) : Prop :=
  ∃ (k : Nat) (y : ByteArray), k ≤ n ∧ v26 = .int .i64 k ∧ v5 = .string y ∧ y = bstr (x k) ∧ y.size ≤ 10000 ∧ OwnM w wr a b u
def RelP (x : Nat → List UInt8) (n : Nat) (w : World) (a b : Int) (u : Value) (v5 v27 : Value) (wr : World) : Prop :=
  ∃ (k m : Nat) (A : Option Addr) (c : Nat), k ≤ n ∧ v27 = .int .i64 k ∧ v5 = .slice A m c ∧ Buf (w.heap.size + 1) 1 wr v5 m (bcells (x k)) ∧ m ≤ 10000 ∧ OwnM w wr a b u
theorem mod_last {k a : Nat} (ha : 1 ≤ a) : (k % a = a - 1) ↔ (k + 1) % a = 0 := by
  constructor
  · intro h
    have h1 : k = a * (k / a) + (a - 1) := by have := Nat.div_add_mod k a; omega
    have h2 : k + 1 = a * (k / a + 1) := by rw [Nat.mul_add]; omega
    rw [h2]; exact Nat.mul_mod_right _ _
  · intro h
    have h1 := Nat.div_add_mod (k + 1) a
    have h2 : k = a * ((k + 1) / a - 1) + (a - 1) := by
      have h3 : 1 ≤ (k + 1) / a := by
        rcases Nat.eq_zero_or_pos ((k + 1) / a) with h0 | h0
        · rw [h0, h] at h1; omega
        · exact h0
      rw [Nat.mul_sub, Nat.mul_one]
      have : a ≤ a * ((k + 1) / a) := Nat.le_mul_of_pos_right a h3
      omega
    rw [h2, Nat.mul_add_mod]
    exact Nat.mod_eq_of_lt (by omega)

set_option maxHeartbeats 4000000 in
set_option maxRecDepth 100000 in
theorem imageStringOf_any (a b : Int) (A : Option Addr) (n c : Nat) (l : List Int) (w : World) (hn : l.length = n) (hsl : SlOk A n c 8) (hr : Rd w 1 icell A l) (htab : w.cell? ⟨2, 15, none⟩ = some (.int .u8 4)) :
    Calls Tryd.prog 5 #[.agg #[.int .i64 a, .int .i64 b, .slice A n c]] w (StrPost (imF a b n l) (bstr (imgB a.toNat b.toNat l n)) w) := by
  have HC := hide (fun (w' : World) (hb' : Below w.heap.size w w') => imageFault_any a b A n c l w' hn hsl (hr.keep hb'))
  have HT := hide (And.intro hr hn)
  have HTB := hide htab
  have HTB0 := HTB
  by_cases h0 : imF a b n l = 0
  · obtain ⟨ha, hb, hnm, hl⟩ := imF_ok h0
    have HL := hide hl
    have hm := mul_b ha hb
    unfold StrPost
    rw [if_pos h0, h0]
    rw [h0] at HC
    obtain ⟨a1, a2⟩ := ha
    obtain ⟨b1, b2⟩ := hb
    have hn4 : n ≤ 4096 := by omega
    clear hr hn hsl h0 hl hnm htab
    obtain ⟨p, rfl⟩ := Int.eq_ofNat_of_zero_le (show 0 ≤ a by omega)
    obtain ⟨q, rfl⟩ := Int.eq_ofNat_of_zero_le (show 0 ≤ b by omega)
    have hp : p < 100 := by omega
    have hq : q < 100 := by omega
    have HLEN := hide (fun k (hk : k ≤ n) => imgB_len p q l k hp hq (by omega))
    have HD1 := hide (show (Lib.decDigits p).length ≤ 2 from dig_len ⟨p, hp⟩)
    have HD2 := hide (show (Lib.decDigits q).length ≤ 2 from dig_len ⟨q, hq⟩)
    have HI1 := hide (fun w => Tryd.strconv_Itoa_small p hp w)
    have HI2 := hide (fun w => Tryd.strconv_Itoa_small q hq w)
    obtain ⟨x1, hx1⟩ : ∃ x1 : ByteArray, x1 = ⟨(Lib.decDigits p).toArray⟩ := ⟨_, rfl⟩
    obtain ⟨x2, hx2⟩ : ∃ x2 : ByteArray, x2 = ⟨(Lib.decDigits q).toArray⟩ := ⟨_, rfl⟩
    rw [← hx1] at HI1
    rw [← hx2] at HI2
    have z1 : x1.size ≤ 2 := by rw [hx1]; have := HD1.out; simpa [ByteArray.size] using this
    have z2 : x2.size ≤ 2 := by rw [hx2]; have := HD2.out; simpa [ByteArray.size] using this
    obtain ⟨y1, hy1⟩ : ∃ y1 : ByteArray, y1 = ⟨#[105, 109, 97, 103, 101, 32]⟩ ++ x1 := ⟨_, rfl⟩
    obtain ⟨y2, hy2⟩ : ∃ y2 : ByteArray, y2 = y1 ++ ⟨#[32]⟩ := ⟨_, rfl⟩
    obtain ⟨y3, hy3⟩ : ∃ y3 : ByteArray, y3 = y2 ++ x2 := ⟨_, rfl⟩
    obtain ⟨y4, hy4⟩ : ∃ y4 : ByteArray, y4 = y3 ++ ⟨#[10]⟩ := ⟨_, rfl⟩
    have t1 : y1.size ≤ 8 := by rw [hy1, ByteArray.size_append]; have : (⟨#[105, 109, 97, 103, 101, 32]⟩ : ByteArray).size = 6 := rfl; omega
    have t2 : y2.size ≤ 9 := by rw [hy2, ByteArray.size_append]; have : (⟨#[32]⟩ : ByteArray).size = 1 := rfl; omega
    have t3 : y3.size ≤ 11 := by rw [hy3, ByteArray.size_append]; omega
    have t4 : y4.size ≤ 12 := by rw [hy4, ByteArray.size_append]; have : (⟨#[10]⟩ : ByteArray).size = 1 := rfl; omega
    have A1 : ∀ w, (Op.stringOp .add ⟨#[105, 109, 97, 103, 101, 32]⟩ x1).run Tryd.prog w = .ok (.string y1) w := fun w => by rw [hy1]; exact run_string_add_sum w _ _ (by have : (⟨#[105, 109, 97, 103, 101, 32]⟩ : ByteArray).size = 6 := rfl; omega)
    have A2 : ∀ w, (Op.stringOp .add y1 ⟨#[32]⟩).run Tryd.prog w = .ok (.string y2) w := fun w => by rw [hy2]; exact run_string_add_sum w _ _ (by have : (⟨#[32]⟩ : ByteArray).size = 1 := rfl; omega)
    have A3 : ∀ w, (Op.stringOp .add y2 x2).run Tryd.prog w = .ok (.string y3) w := fun w => by rw [hy3]; exact run_string_add_sum w _ _ (by omega)
    have A4 : ∀ w, (Op.stringOp .add y3 ⟨#[10]⟩).run Tryd.prog w = .ok (.string y4) w := fun w => by rw [hy4]; exact run_string_add_sum w _ _ (by have : (⟨#[10]⟩ : ByteArray).size = 1 := rfl; omega)
    have HX := hide (show y4 = bstr (imgB p q l 0) by
      rw [hy4, hy3, hy2, hy1, hx1, hx2]
      show bstr _ ++ bstr _ ++ bstr _ ++ bstr _ ++ bstr _ = _
      simp only [bstr_app, imgB, rowsB, List.append_nil])
    clear hy1 hy2 hy3 hy4
    clear HD1 HD2 hx1 hx2
    rw [Int.toNat_natCast, Int.toNat_natCast]
    obtain ⟨x, hxx⟩ : ∃ x : Nat → List UInt8, x = imgB p q l := ⟨_, rfl⟩
    rw [← hxx] at HX HLEN ⊢
    have HXS := hide (fun k z (hz : l[k]? = some z) => by rw [hxx]; exact imgB_succ p q l k z hz : ∀ k z, l[k]? = some z → x (k + 1) = if (k + 1) % p = 0 then x k ++ [hxd z] ++ [10] else x k ++ [hxd z])
    clear hxx
    go_enter Tryd.func5, Tryd.ntmps5
    go_wp2_with (go_at_call 7; refine (HC.out _ (Below.alloc (Below.refl _ _) (Nat.le_refl _) _)).mono ?_; rintro e w1 ⟨rfl, hb1⟩; have HO := hide ((OwnM.start w p q (.slice A n c) 24).keep hb1); have s0 := HO.out.s0; have s1 := HO.out.s1; have s2 := HO.out.s2)
    go_region_held3 (fun w' => w'.cell? ⟨w.heap.size, 0, none⟩ = some (.int .i64 p) ∧ w'.cell? ⟨w.heap.size, 1, none⟩ = some (.int .i64 q)) (first | go_keep)
      (first
        | (go_at_call 8; refine (HI1.out _).mono ?_; rintro e w' ⟨rfl, rfl⟩)
        | (go_at_call 8; refine (HI2.out _).mono ?_; rintro e w' ⟨rfl, rfl⟩))
    rename_i hS
    clear hS A1 A2 A3 A4 t1 t2 t3 z1 z2
    have HO2 := hide (HO.out.keep (Below.drew (Below.refl _ _)))
    clear HO hb1 HTB
    go_wp2_with fail
    go_loopw [5, 26] (RelR x n w p q (.slice A n c)) (fun _ v _ => n - (intOf v).toNat)
    case atStart => exact ⟨0, y4, by omega, rfl, rfl, HX.out, by omega, HO2.out⟩
    case round =>
      clear HX HO2 t4 s0 s1 s2
      obtain ⟨k, y, hk, rfl, rfl, hy, hys, hO⟩ := hrel
      have HO := hide hO
      have HY := hide hy
      have s0 := hO.s0
      have s2 := hO.s2
      have hwl : w.heap.size < wr.heap.size := World.block_lt_of_cell? wr _ s0
      by_cases hlt : k < n
      · obtain ⟨bb, oo, z, rfl, hz, hzm, h1⟩ := (HT.out.1.keep hO.below).at_ (k := k) (by have := HT.out.2; omega)
        have hcell : wr.cell? ⟨bb, oo + k, none⟩ = some (.int .i64 z) := by have := h1 0 _ rfl; simpa using this
        have hki : (k : Int) < n := by omega
        have hbl : bb < wr.heap.size := World.block_lt_of_cell? wr ⟨bb, oo + k, none⟩ hcell
        obtain ⟨z0, z15⟩ := HL.out z hzm
        have HXk := hide (HXS.out k z hz)
        have HLk := hide (HLEN.out (k + 1) (by omega))
        have htw := keept hO.below HTB0.out
        have HF := hide (fun (w' : World) (hb' : Below wr.heap.size wr w') => hexInt_any z w' z0 z15 (keept hb' htw))
        clear h1 hz hzm hO hy htw
        have htm : (k : Int).tmod p = ((k % p : Nat) : Int) := by rw [Int.tmod_eq_emod_of_nonneg (by omega)]; rfl
        have hwr : IntKind.i64.wrap ((p : Int) - 1) = (p : Int) - 1 := IntWalk.i64_in _ (by omega)
        by_cases hmod : (k + 1) % p = 0
        · have HM := hide (HXk.out.trans (if_pos hmod))
          have hml := mod_last (k := k) (show 1 ≤ p by omega)
          have hq1 : (((k % p : Nat) : Int) == (p : Int) - 1) = true := by have := hml.2 hmod; simp; omega
          clear hmod hml HXk
          go_wp2_with (go_at_call 9; refine (HF.out _ (Below.refl _ _)).mono ?_; rintro e w2 ⟨rfl, hb2⟩; have q0 := keept hb2 s0; have hbs : (bstr [hxd z]).size = 1 := rfl)
          go_quiet (fail)
          go_wp2_with fail
          go_roundw
          case rel => exact ⟨k + 1, _, by omega, by go_num, rfl, (add_two HY.out HM.out HLk.out).1, (add_two HY.out HM.out HLk.out).2, HO.out.keep (below_drewN _ hb2)⟩
          case measure => simp [intOf]; omega
        · have HM := hide (HXk.out.trans (if_neg hmod))
          have hml := mod_last (k := k) (show 1 ≤ p by omega)
          have hq1 : (((k % p : Nat) : Int) == (p : Int) - 1) = false := by have := fun h => hmod (hml.1 h); simp; omega
          clear hmod hml HXk
          go_wp2_with (go_at_call 9; refine (HF.out _ (Below.refl _ _)).mono ?_; rintro e w2 ⟨rfl, hb2⟩; have q0 := keept hb2 s0; have hbs : (bstr [hxd z]).size = 1 := rfl)
          go_quiet (fail)
          go_wp2_with fail
          go_roundw
          case rel => exact ⟨k + 1, _, by omega, by go_num, rfl, (add_one HY.out HM.out HLk.out).1, (add_one HY.out HM.out HLk.out).2, HO.out.keep (below_drewN _ hb2)⟩
          case measure => simp [intOf]; omega
      · obtain rfl : k = n := by omega
        go_wp2_with fail
        go_ret2
        exact ⟨by rw [HY.out] <;> rfl, hO.below⟩
  · obtain ⟨z, hz⟩ : ∃ z, z = imF a b n l := ⟨_, rfl⟩
    unfold StrPost
    rw [← hz] at h0 HC ⊢
    rw [if_neg h0]
    have h0' : (z != 0) = true := by simpa using h0
    clear hz h0 hr hn hsl htab
    go_enter Tryd.func5, Tryd.ntmps5
    go_wp2_with (go_at_call 7; refine (HC.out _ (Below.alloc (Below.refl _ _) (Nat.le_refl _) _)).mono ?_; rintro e w1 ⟨rfl, hb1⟩)
    go_ret2
    exact ⟨rfl, (Below.alloc (Below.refl _ _) (Nat.le_refl _) _).trans (hb1.mono (by simp))⟩

set_option maxHeartbeats 4000000 in
set_option maxRecDepth 100000 in
theorem imageString_any (a b : Int) (A : Option Addr) (n c : Nat) (l : List Int) (w : World) (hn : l.length = n) (hsl : SlOk A n c 8) (hr : Rd w 1 icell A l) (htab : w.cell? ⟨2, 15, none⟩ = some (.int .u8 4)) :
    Calls Tryd.prog 4 #[.agg #[.int .i64 a, .int .i64 b, .slice A n c]] w (StrPost (imF a b n l) (bstr (imgB a.toNat b.toNat l n)) w) := by
  have HC := hide (fun (w' : World) (hb' : Below w.heap.size w w') => checkImage_any a b A n c l w' hn hsl (hr.keep hb'))
  have HT := hide (And.intro hr hn)
  have HTB := hide htab
  have HTB0 := HTB
  by_cases h0 : imF a b n l = 0
  · obtain ⟨ha, hb, hnm, hl⟩ := imF_ok h0
    have HL := hide hl
    have hm := mul_b ha hb
    unfold StrPost
    rw [if_pos h0, h0]
    rw [h0] at HC
    obtain ⟨a1, a2⟩ := ha
    obtain ⟨b1, b2⟩ := hb
    have hn4 : n ≤ 4096 := by omega
    clear hr hn hsl h0 hl hnm htab
    obtain ⟨p, rfl⟩ := Int.eq_ofNat_of_zero_le (show 0 ≤ a by omega)
    obtain ⟨q, rfl⟩ := Int.eq_ofNat_of_zero_le (show 0 ≤ b by omega)
    have hp : p < 100 := by omega
    have hq : q < 100 := by omega
    have HLEN := hide (fun k (hk : k ≤ n) => imgB_len p q l k hp hq (by omega))
    have HD1 := hide (show (Lib.decDigits p).length ≤ 2 from dig_len ⟨p, hp⟩)
    have HD2 := hide (show (Lib.decDigits q).length ≤ 2 from dig_len ⟨q, hq⟩)
    have HI1 := hide (fun w => Tryd.strconv_Itoa_small p hp w)
    have HI2 := hide (fun w => Tryd.strconv_Itoa_small q hq w)
    obtain ⟨x1, hx1⟩ : ∃ x1 : ByteArray, x1 = ⟨(Lib.decDigits p).toArray⟩ := ⟨_, rfl⟩
    obtain ⟨x2, hx2⟩ : ∃ x2 : ByteArray, x2 = ⟨(Lib.decDigits q).toArray⟩ := ⟨_, rfl⟩
    rw [← hx1] at HI1
    rw [← hx2] at HI2
    have z1 : x1.size ≤ 2 := by rw [hx1]; have := HD1.out; simpa [ByteArray.size] using this
    have z2 : x2.size ≤ 2 := by rw [hx2]; have := HD2.out; simpa [ByteArray.size] using this
    obtain ⟨y1, hy1⟩ : ∃ y1 : ByteArray, y1 = ⟨#[105, 109, 97, 103, 101, 32]⟩ ++ x1 := ⟨_, rfl⟩
    obtain ⟨y2, hy2⟩ : ∃ y2 : ByteArray, y2 = y1 ++ ⟨#[32]⟩ := ⟨_, rfl⟩
    obtain ⟨y3, hy3⟩ : ∃ y3 : ByteArray, y3 = y2 ++ x2 := ⟨_, rfl⟩
    obtain ⟨y4, hy4⟩ : ∃ y4 : ByteArray, y4 = y3 ++ ⟨#[10]⟩ := ⟨_, rfl⟩
    have t1 : y1.size ≤ 8 := by rw [hy1, ByteArray.size_append]; have : (⟨#[105, 109, 97, 103, 101, 32]⟩ : ByteArray).size = 6 := rfl; omega
    have t2 : y2.size ≤ 9 := by rw [hy2, ByteArray.size_append]; have : (⟨#[32]⟩ : ByteArray).size = 1 := rfl; omega
    have t3 : y3.size ≤ 11 := by rw [hy3, ByteArray.size_append]; omega
    have t4 : y4.size ≤ 12 := by rw [hy4, ByteArray.size_append]; have : (⟨#[10]⟩ : ByteArray).size = 1 := rfl; omega
    have A1 : ∀ w, (Op.stringOp .add ⟨#[105, 109, 97, 103, 101, 32]⟩ x1).run Tryd.prog w = .ok (.string y1) w := fun w => by rw [hy1]; exact run_string_add_sum w _ _ (by have : (⟨#[105, 109, 97, 103, 101, 32]⟩ : ByteArray).size = 6 := rfl; omega)
    have A2 : ∀ w, (Op.stringOp .add y1 ⟨#[32]⟩).run Tryd.prog w = .ok (.string y2) w := fun w => by rw [hy2]; exact run_string_add_sum w _ _ (by have : (⟨#[32]⟩ : ByteArray).size = 1 := rfl; omega)
    have A3 : ∀ w, (Op.stringOp .add y2 x2).run Tryd.prog w = .ok (.string y3) w := fun w => by rw [hy3]; exact run_string_add_sum w _ _ (by omega)
    have A4 : ∀ w, (Op.stringOp .add y3 ⟨#[10]⟩).run Tryd.prog w = .ok (.string y4) w := fun w => by rw [hy4]; exact run_string_add_sum w _ _ (by have : (⟨#[10]⟩ : ByteArray).size = 1 := rfl; omega)
    have HX := hide (show y4 = bstr (imgB p q l 0) by
      rw [hy4, hy3, hy2, hy1, hx1, hx2]
      show bstr _ ++ bstr _ ++ bstr _ ++ bstr _ ++ bstr _ = _
      simp only [bstr_app, imgB, rowsB, List.append_nil])
    clear hy1 hy2 hy3 hy4
    clear HD1 HD2 hx1 hx2
    rw [Int.toNat_natCast, Int.toNat_natCast]
    obtain ⟨x, hxx⟩ : ∃ x : Nat → List UInt8, x = imgB p q l := ⟨_, rfl⟩
    rw [← hxx] at HX HLEN ⊢
    have HXS := hide (fun k z (hz : l[k]? = some z) => by rw [hxx]; exact imgB_succ p q l k z hz : ∀ k z, l[k]? = some z → x (k + 1) = if (k + 1) % p = 0 then x k ++ [hxd z] ++ [10] else x k ++ [hxd z])
    clear hxx
    have hcvt : ∀ (w : World) (s : ByteArray), (convert 9 30 (.string s)).run Tryd.prog w = .ok (.slice (some ⟨w.heap.size, 0, none⟩) s.size (grownCap w s.size 0 5)) (Lib.bytesWorld w 5 s) := fun w s => Lib.run_convert_string_bytes w _ _ _ s Tryd.underlying9 Tryd.underlying30 Tryd.underlying5
    go_enter Tryd.func4, Tryd.ntmps4
    go_wp2_with (go_at_call 6; refine (HC.out _ (Below.alloc (Below.refl _ _) (Nat.le_refl _) _)).mono ?_; rintro e w1 ⟨rfl, hb1⟩; have HO := hide ((OwnM.start w p q (.slice A n c) 24).keep hb1); have s0 := HO.out.s0; have s1 := HO.out.s1; have s2 := HO.out.s2)
    refine wp_region_still_tail 10 (by kernel_rfl) (by kernel_rfl) ?_
    simp only [List.take_succ_cons, List.take_zero, List.drop_succ_cons, List.drop_zero]
    still_step
    still_step
    still_call (HI1.out _)
    still_step
    still_step
    still_step
    still_step
    still_call (HI2.out _)
    still_step
    still_step
    refine wpStill_nil ?_
    change wpList _ _ _ _ _ w1.drew
    clear A1 A2 A3 A4 t1 t2 t3 z1 z2 s0 s1 s2
    have HO2 := hide ((HO.out.keep (Below.drew (Below.refl _ _))).keep (below_bytes w1.drew 5 y4))
    have hw1 : w.heap.size + 1 ≤ w1.heap.size := by have := hb1.size; simpa using this
    have HB := hide (buf_bytes w1.drew 5 y4 (by unfold maxLen; omega) (w.heap.size + 1) hw1)
    have hyl : y4.data.toList = x 0 := by rw [HX.out]; exact bstr_data _
    rw [hyl] at HB
    clear HO hb1 HTB hyl
    have s0 := HO2.out.s0
    have s2 := HO2.out.s2
    go_wp2_with fail
    go_loopw [5, 27] (RelP x n w p q (.slice A n c)) (fun _ v _ => n - (intOf v).toNat)
    case atStart => exact ⟨0, y4.size, _, _, by omega, rfl, rfl, HB.out, by omega, HO2.out⟩
    case round =>
      clear HX HO2 t4 HB s0 s2 hw1 hcvt
      obtain ⟨k, m, A5, c5, hk, rfl, rfl, hbuf, hm5, hO⟩ := hrel
      have HO := hide hO
      have s0 := hO.s0
      have s2 := hO.s2
      have hwl : w.heap.size < wr.heap.size := World.block_lt_of_cell? wr _ s0
      by_cases hlt : k < n
      · obtain ⟨bb, oo, z, rfl, hz, hzm, h1⟩ := (HT.out.1.keep hO.below).at_ (k := k) (by have := HT.out.2; omega)
        have hcell : wr.cell? ⟨bb, oo + k, none⟩ = some (.int .i64 z) := by have := h1 0 _ rfl; simpa using this
        have hki : (k : Int) < n := by omega
        have hbl : bb < wr.heap.size := World.block_lt_of_cell? wr ⟨bb, oo + k, none⟩ hcell
        obtain ⟨z0, z15⟩ := HL.out z hzm
        have HXk := hide (HXS.out k z hz)
        have HLk := hide (HLEN.out (k + 1) (by omega))
        have hix := hex_index z z0 z15
        clear h1 hz hzm
        by_cases hmod : (k + 1) % p = 0
        · have HM := hide (HXk.out.trans (if_pos hmod))
          have hq1 : (((k : Int) + 1) % (p : Int) == 0) = true := by have e : ((k : Int) + 1) % (p : Int) = (((k + 1) % p : Nat) : Int) := rfl; rw [e]; simp; omega
          clear hmod HXk
          go_wp2_with (first
            | (at_builtin; refine bufApp bytT _ rfl _ _ _ rfl (w.heap.size + 1) rfl (hbuf1.alloc _) (by simp; omega) _ 1 _ rfl (Src.lit Tryd.underlying30 w2 _ rfl #[.int .u8 (10 : Int)] 1 1 rfl rfl _) (by omega) ?_; intro v3 w3 hbuf2 hbl2 hgr2 hwh2; have HO3 := hide (HO2.out.app hbl2))
            | (at_builtin; refine bufApp bytT _ rfl _ _ _ rfl (w.heap.size + 1) rfl (hbuf.alloc _) (by simp; omega) _ 1 _ rfl (Src.lit Tryd.underlying30 wr _ rfl #[.int .u8 ((hxd z).toNat : Int)] 1 1 rfl rfl _) (by omega) ?_; intro v2 w2 hbuf1 hbl1 hgr1 hwh1; have HO2 := hide (HO.out.app hbl1); have q0 := HO2.out.s0; have hwl2 : w.heap.size < w2.heap.size := World.block_lt_of_cell? w2 _ q0))
          obtain ⟨A6, c6, rfl⟩ := hbuf2.shape
          go_roundw
          case rel => exact ⟨k + 1, m + 1 + 1, A6, c6, by omega, by go_num, rfl, by rw [HM.out, bcells_app, bcells_app]; exact hbuf2, by have h1 := HLk.out; have h2 := hbuf2.len; rw [HM.out] at h1; simp [bcells_len] at h1 h2; omega, HO3.out⟩
          case measure => simp [intOf]; omega
        · have HM := hide (HXk.out.trans (if_neg hmod))
          have hq1 : (((k : Int) + 1) % (p : Int) == 0) = false := by have e : ((k : Int) + 1) % (p : Int) = (((k + 1) % p : Nat) : Int) := rfl; rw [e]; simp; omega
          clear hmod HXk
          go_wp2_with (at_builtin; refine bufApp bytT _ rfl _ _ _ rfl (w.heap.size + 1) rfl (hbuf.alloc _) (by simp; omega) _ 1 _ rfl (Src.lit Tryd.underlying30 wr _ rfl #[.int .u8 ((hxd z).toNat : Int)] 1 1 rfl rfl _) (by omega) ?_; intro v2 w2 hbuf1 hbl1 hgr1 hwh1; have HO2 := hide (HO.out.app hbl1); have q0 := HO2.out.s0; have hwl2 : w.heap.size < w2.heap.size := World.block_lt_of_cell? w2 _ q0)
          obtain ⟨A6, c6, rfl⟩ := hbuf1.shape
          go_roundw
          case rel => exact ⟨k + 1, m + 1, A6, c6, by omega, by go_num, rfl, by rw [HM.out, bcells_app]; exact hbuf1, by have h1 := HLk.out; have h2 := hbuf1.len; rw [HM.out] at h1; simp [bcells_len] at h1 h2; omega, HO2.out⟩
          case measure => simp [intOf]; omega
      · obtain rfl : k = n := by omega
        have hst := buf_str hbuf
        clear hbuf
        go_wp2_with fail
        go_ret2
        exact ⟨rfl, hO.below⟩
  · obtain ⟨z, hz⟩ : ∃ z, z = imF a b n l := ⟨_, rfl⟩
    unfold StrPost
    rw [← hz] at h0 HC ⊢
    rw [if_neg h0]
    have h0' : (z != 0) = true := by simpa using h0
    clear hz h0 hr hn hsl htab
    go_enter Tryd.func4, Tryd.ntmps4
    go_wp2_with (go_at_call 6; refine (HC.out _ (Below.alloc (Below.refl _ _) (Nat.le_refl _) _)).mono ?_; rintro e w1 ⟨rfl, hb1⟩)
    go_ret2
    exact ⟨rfl, (Below.alloc (Below.refl _ _) (Nat.le_refl _) _).trans (hb1.mono (by simp))⟩
end Go.Proofs.YtkldjnopapipfaaDoor.img
