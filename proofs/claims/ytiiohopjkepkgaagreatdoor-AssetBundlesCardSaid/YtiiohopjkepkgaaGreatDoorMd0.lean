/-
  strconv.ParseInt to the base 32, at strings of digits of that base.
-/
import Derived.Test.YtiiohopjkepkgaaGreatDoorL0
import Derived.Test.YtiiohopjkepkgaaGreatDoorShelf
import Derived.Lib.ConvBytes
import Derived.Lib.AtoiErrMem
import Derived.Lib.AtoiAllMem
import Derived.Lib.IfaceNeq
import Derived.Lib.Walk
import Derived.Lib.Strings
import Derived.Lib.ItoaWalk
import Derived.Lib.Hide
import Derived.WalkKit
import Derived.Laws.Strings3
import Derived.Laws.Closers25
import Derived.Laws.Closers25b
import Derived.BigCall
import Derived.BigGuard
namespace Go.Proofs.YtiiohopjkepkgaaGreatDoor.md
open Go.RowKit Go.Shelf
set_option linter.unusedVariables false
set_option linter.unusedSimpArgs false
/-- A digit's value; -1: it is none. -/
def dgN (c : Nat) : Int := if 48 ≤ c ∧ c ≤ 57 then (c : Int) - 48 else if 97 ≤ c ∧ c ≤ 118 then (c : Int) - 87 else -1
/-- The number of digits behind others. -/
def valN (a : Nat) (l : List UInt8) : Nat := l.foldl (fun a c => a * 32 + (dgN c.toNat).toNat) a
theorem valN_ge : ∀ (l : List UInt8) (a : Nat), a ≤ valN a l
  | [], a => Nat.le_refl _
  | c :: l, a => by
    have := valN_ge l (a * 32 + (dgN c.toNat).toNat)
    show a ≤ valN (a * 32 + (dgN c.toNat).toNat) l
    omega
theorem lower_id : ∀ n : Fin 256, 97 ≤ n.val → n.val ≤ 122 → bits BinOp.or IntKind.u8 (n.val : Nat) 32 = (n.val : Nat) := by decide +kernel
def outU (n : Nat) : Value := if n < 18446744073709551616 then .tuple #[.int .u64 n, .nilIface] else .tuple #[.int .u64 18446744073709551615, .iface 258 (.int .i64 1)]
theorem lower_raw (c : UInt8) (w : World) : Calls Tryz.prog 183 #[.int .u8 (c.toNat : Int)] w fun e w' => e = .returned (.int .u8 (bits BinOp.or IntKind.u8 (c.toNat : Int) 32)) ∧ w' = w := by
  go_enter Tryz.func183, Tryz.ntmps183
  go_wp2
  go_ret
  exact ⟨rfl, rfl⟩
set_option maxHeartbeats 32000000 in
set_option maxRecDepth 100000 in
theorem pu32 (t : ByteArray) (hne : t.size ≠ 0) (hmax : t.size ≤ 1000000) (hd : ∀ k, k < t.size → 0 ≤ dgN (t.data.toList.getD k 0).toNat) (w : World) :
    Calls Tryz.prog 140 #[.string t, .int .i64 32, .int .i64 64] w fun e w' => e = .returned (outU (valN 0 t.data.toList)) ∧ w' = Lib.bytesWorld w 5 t := by
  have e321 : ∀ args w, (callFunc 183 args).run Tryz.prog w = .ok (.enter 183 args) w := enters_of Tryz.func183 (by kernel_rfl) rfl
  have hemp : t.toList.isEmpty = false := by
    rw [← decide_eq_emptyBytes]
    exact decide_eq_false (fun h => hne (by rw [h]; rfl))
  have hcv := Lib.run_convert_string_bytes (P := Tryz.prog) w 9 51 5 t (u := .string) Tryz.underlying9 Tryz.underlying51 Tryz.underlying5
  have hB : ∀ j, j < t.size → (Lib.bytesWorld w 5 t).cell? ⟨w.heap.size, j, none⟩ = some (.int .u8 (t.data.toList.getD j 0).toNat) := fun j hj => Lib.bytesWorld_cell w 5 t j hj
  obtain ⟨W1, hW1⟩ : ∃ W1, W1 = Lib.bytesWorld w 5 t := ⟨_, rfl⟩
  rw [← hW1] at hcv hB ⊢
  clear hW1
  obtain ⟨bs, hL⟩ : ∃ bs, bs = t.data.toList := ⟨_, rfl⟩
  have hLn : bs.length = t.size := by rw [hL, Lib.size_eq]
  rw [← hL] at hB hd ⊢
  clear hL
  have HD := hide hd
  clear hd
  have hmv : IntKind.u64.wrap (IntKind.u64.wrap 18446744073709551616 - 1) = 18446744073709551615 := by
    rw [IntKind.wrap_u64, IntKind.wrap_u64]
    decide
  go_enter Tryz.func140, Tryz.ntmps140
  go_wp2
  go_loop [12, 13, 101] (fun vu vn vi => ∃ (k acc : Nat) (a : Int), vu = .bool false ∧ vn = .int .u64 a ∧ vi = .int .i64 k ∧ k ≤ t.size ∧ Hid (a = (acc : Int) ∧ acc < 18446744073709551616 ∧ valN 0 bs = valN acc (bs.drop k)))
    (fun _ _ vi => t.size - (intOf vi).toNat)
  case atStart => exact ⟨0, 0, 0, rfl, rfl, rfl, by omega, rfl, by omega, rfl⟩
  case round =>
    obtain ⟨k, acc, a, rfl, rfl, rfl, hk, hh⟩ := hrel
    obtain ⟨ha, hacc, hdec⟩ := hh.out
    clear hh
    have a0 : 0 ≤ a := by omega
    have a1 : a < 18446744073709551616 := by omega
    by_cases hkn : k < t.size
    · have hc := hB k hkn
      have hdk := HD.out k hkn
      have hdrop : bs.drop k = bs[k]'(by omega) :: bs.drop (k + 1) := List.drop_eq_getElem_cons (by omega)
      have hget : bs.getD k 0 = bs[k]'(by omega) := by simp [List.getD, List.getElem?_eq_getElem (show k < bs.length by omega)]
      rw [hdrop] at hdec
      rw [hget] at hc hdk
      generalize bs[k]'(by omega) = c at hc hdec hdk
      have hc256 : c.toNat < 256 := c.toNat_lt
      clear hB hdrop hget
      have hnx : valN acc (c :: bs.drop (k + 1)) = valN (acc * 32 + (dgN c.toNat).toNat) (bs.drop (k + 1)) := rfl
      rw [hnx] at hdec
      have hge := valN_ge (bs.drop (k + 1)) (acc * 32 + (dgN c.toNat).toNat)
      rw [← hdec] at hge
      have hlow := lower_raw c
      by_cases hdig : 48 ≤ c.toNat ∧ c.toNat ≤ 57
      · obtain ⟨hd0, hd1⟩ := hdig
        have hdv : dgN c.toNat = (c.toNat : Int) - 48 := by unfold dgN; rw [if_pos ⟨hd0, hd1⟩]
        rw [hdv] at hge hdec
        by_cases hcut : 576460752303423488 ≤ acc
        · have hF : outU (valN 0 bs) = .tuple #[.int .u64 18446744073709551615, .iface 258 (.int .i64 1)] := by unfold outU; rw [if_neg (by omega)]
          have icut : 576460752303423488 ≤ a := by omega
          clear hcut hacc ha hge hdec hnx hdv hdk
          go_wp2
          go_ret2
          exact ⟨by first | rfl | (rw [hF]; rfl), rfl⟩
        · have HN : Hid (a * 32 + ((c.toNat : Int) - 48) = ((acc * 32 + ((c.toNat : Int) - 48).toNat : Nat) : Int) ∧ acc * 32 + ((c.toNat : Int) - 48).toNat < 18446744073709551616 ∧ valN 0 bs = valN (acc * 32 + ((c.toNat : Int) - 48).toNat) (bs.drop (k + 1))) := Lib.hid ⟨by omega, by omega, hdec⟩
          have icut : a < 576460752303423488 := by omega
          have iov : a * 32 + ((c.toNat : Int) - 48) < 18446744073709551616 := by omega
          clear hcut hacc hdec ha hge hnx hdv hdk
          go_wp2
          refine ⟨⟨k + 1, acc * 32 + ((c.toNat : Int) - 48).toNat, a * 32 + ((c.toNat : Int) - 48), rfl, (by first | rfl | (congr 1; omega)), (by first | rfl | (congr 1; omega)), by omega, HN⟩, by simp [intOf]; omega⟩
      · obtain ⟨hd0, hd1⟩ : 97 ≤ c.toNat ∧ c.toNat ≤ 118 := by
          unfold dgN at hdk
          rw [if_neg hdig] at hdk
          by_cases h : 97 ≤ c.toNat ∧ c.toNat ≤ 118
          · exact h
          · rw [if_neg h] at hdk; omega
        have hdv : dgN c.toNat = (c.toNat : Int) - 87 := by unfold dgN; rw [if_neg hdig, if_pos ⟨hd0, hd1⟩]
        rw [hdv] at hge hdec
        have hlo : bits BinOp.or IntKind.u8 (c.toNat : Int) 32 = (c.toNat : Int) := lower_id ⟨c.toNat, hc256⟩ hd0 (show c.toNat ≤ 122 by omega)
        rw [hlo] at hlow
        by_cases hcut : 576460752303423488 ≤ acc
        · have hF : outU (valN 0 bs) = .tuple #[.int .u64 18446744073709551615, .iface 258 (.int .i64 1)] := by unfold outU; rw [if_neg (by omega)]
          have icut : 576460752303423488 ≤ a := by omega
          clear hcut hacc ha hge hdec hnx hdv hdk hlo
          go_wp2_with (go_at_fn 183; refine (hlow _).mono ?_; rintro e w' ⟨rfl, rfl⟩)
          all_goals go_ret2
          all_goals exact ⟨by first | rfl | (rw [hF]; rfl), rfl⟩
        · have HN : Hid (a * 32 + ((c.toNat : Int) - 87) = ((acc * 32 + ((c.toNat : Int) - 87).toNat : Nat) : Int) ∧ acc * 32 + ((c.toNat : Int) - 87).toNat < 18446744073709551616 ∧ valN 0 bs = valN (acc * 32 + ((c.toNat : Int) - 87).toNat) (bs.drop (k + 1))) := Lib.hid ⟨by omega, by omega, hdec⟩
          have icut : a < 576460752303423488 := by omega
          have iov : a * 32 + ((c.toNat : Int) - 87) < 18446744073709551616 := by omega
          clear hcut hacc hdec ha hge hnx hdv hdk hlo
          go_wp2_with (go_at_fn 183; refine (hlow _).mono ?_; rintro e w' ⟨rfl, rfl⟩)
          refine ⟨⟨k + 1, acc * 32 + ((c.toNat : Int) - 87).toNat, a * 32 + ((c.toNat : Int) - 87), rfl, (by first | rfl | (congr 1; omega)), (by first | rfl | (congr 1; omega)), by omega, HN⟩, by simp [intOf]; omega⟩
    · have hkk : k = t.size := by omega
      subst hkk
      have hF : valN acc (bs.drop t.size) = acc := by rw [List.drop_eq_nil_of_le (by omega)]; rfl
      rw [hF] at hdec
      have hO : outU (valN 0 bs) = .tuple #[.int .u64 (acc : Int), .nilIface] := by unfold outU; rw [hdec, if_pos hacc]
      have hO2 : outU acc = .tuple #[.int .u64 (acc : Int), .nilIface] := by unfold outU; rw [if_pos hacc]
      subst ha
      clear hacc hF a0 a1
      go_wp2
      go_ret2
      exact ⟨by first | rfl | (rw [hO]; rfl) | (rw [hO2]; rfl), rfl⟩
theorem str_index2 (s : ByteArray) (k : IntKind) (i : Int) (h0 : 0 ≤ i) (h1 : i < s.size) (w : World) :
    (Instr.index 9 (.string s) (.int k i)).run Tryz.prog w = .ok (.int .u8 ((s.data.getD i.toNat 0).toNat : Int)) w := by
  rw [run_index_string w 9 s k i Tryz.underlying9, dif_pos ⟨h0, by omega⟩]
  have hlt : i.toNat < s.data.size := by have : s.size = s.data.size := rfl; omega
  simp only [Array.getD, hlt, ↓reduceDIte]
  rfl
def outI (n : Nat) : Value := if n < 9223372036854775808 then .tuple #[.int .i64 n, .nilIface] else .tuple #[.int .i64 9223372036854775807, .iface 258 (.int .i64 1)]
set_option maxHeartbeats 32000000 in
set_option maxRecDepth 100000 in
theorem pi32 (t : ByteArray) (hne : t.size ≠ 0) (hmax : t.size ≤ 1000000) (hd : ∀ k, k < t.size → 0 ≤ dgN (t.data.toList.getD k 0).toNat) (w : World) :
    Calls Tryz.prog 97 #[.string t, .int .i64 32, .int .i64 64] w fun e w' => e = .returned (outI (valN 0 t.data.toList)) ∧ w' = Lib.bytesWorld w 5 t := by
  have e287 : ∀ args w, (callFunc 140 args).run Tryz.prog w = .ok (.enter 140 args) w := enters_of Tryz.func140 (by kernel_rfl) rfl
  have hemp : t.toList.isEmpty = false := by
    rw [← decide_eq_emptyBytes]
    exact decide_eq_false (fun h => hne (by rw [h]; rfl))
  have hpos : 0 < t.size := by omega
  have hU := pu32 t hne hmax hd w
  have hd0 := hd 0 hpos
  obtain ⟨c0, hs0⟩ : ∃ c0, c0 = t[0]'hpos := ⟨_, rfl⟩
  have hg : t.data.toList.getD 0 0 = c0 := by rw [hs0]; exact (Lib.getD_at t 0 hpos).symm
  rw [hg] at hd0
  have i43 : ¬ (c0.toNat : Int) = 43 := fun h => by
    have : c0.toNat = 43 := by omega
    rw [this] at hd0
    exact absurd hd0 (by decide)
  have i45 : ¬ (c0.toNat : Int) = 45 := fun h => by
    have : c0.toNat = 45 := by omega
    rw [this] at hd0
    exact absurd hd0 (by decide)
  have hix : ∀ W, (Instr.index 9 (.string t) (.int .i64 0)).run Tryz.prog W = .ok (.int .u8 (c0.toNat : Int)) W := fun W => by
    rw [str_index2 t .i64 0 (by omega) (by omega) W, hs0]
    have hlt : 0 < t.data.size := hpos
    simp only [Array.getD, Int.toNat_zero, hlt, ↓reduceDIte]
    rfl
  clear hs0
  clear hd hd0 hg hne
  have hq1 : ∀ W, (binOp .neq 55 (.iface 258 (.int .i64 1)) (.iface 258 (.int .i64 1))).run Tryz.prog W = .ok (.bool false) W := fun W => Lib.run_neq_iface_int W 1 1 Tryz.underlying55 (by kernel_rfl) Tryz.underlying258
  generalize valN 0 t.data.toList = u at hU ⊢
  generalize Lib.bytesWorld w 5 t = W1 at hU ⊢
  by_cases h64 : u < 18446744073709551616
  · obtain ⟨a, ha⟩ : ∃ a : Int, a = (u : Int) := ⟨_, rfl⟩
    have hO : outU u = .tuple #[.int .u64 a, .nilIface] := by unfold outU; rw [if_pos h64, ha]
    rw [hO] at hU
    have a0 : 0 ≤ a := by omega
    have a1 : a ≤ 18446744073709551615 := by omega
    by_cases hout : u < 9223372036854775808
    · have hres : outI u = .tuple #[.int .i64 a, .nilIface] := by unfold outI; rw [if_pos hout, ha]
      rw [hres]
      have iin : a < 9223372036854775808 := by omega
      clear hres hout h64 hO ha
      go_enter Tryz.func97, Tryz.ntmps97
      go_wp2_with (go_at_fn 140; refine hU.mono ?_; rintro e w1 ⟨rfl, rfl⟩)
      go_wp2
      go_ret2
      exact ⟨rfl, rfl⟩
    · have hres : outI u = .tuple #[.int .i64 9223372036854775807, .iface 258 (.int .i64 1)] := by unfold outI; rw [if_neg hout]
      rw [hres]
      have iout : 9223372036854775808 ≤ a := by omega
      clear hres hout h64 hO ha
      go_enter Tryz.func97, Tryz.ntmps97
      go_wp2_with (go_at_fn 140; refine hU.mono ?_; rintro e w1 ⟨rfl, rfl⟩)
      go_wp2
      go_ret2
      exact ⟨rfl, rfl⟩
  · have hO : outU u = .tuple #[.int .u64 18446744073709551615, .iface 258 (.int .i64 1)] := by unfold outU; rw [if_neg h64]
    rw [hO] at hU
    have hres : outI u = .tuple #[.int .i64 9223372036854775807, .iface 258 (.int .i64 1)] := by unfold outI; rw [if_neg (by omega)]
    rw [hres]
    clear hres h64 hO
    go_enter Tryz.func97, Tryz.ntmps97
    go_wp2_with (go_at_fn 140; refine hU.mono ?_; rintro e w1 ⟨rfl, rfl⟩)
    go_wp2
    go_ret2
    exact ⟨rfl, rfl⟩
end Go.Proofs.YtiiohopjkepkgaaGreatDoor.md
