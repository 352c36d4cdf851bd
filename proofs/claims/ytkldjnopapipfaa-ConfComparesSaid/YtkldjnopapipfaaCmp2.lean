/-
  slices.Compare at []string, and cmp.Or at ints: what each answers.
-/
import Derived.Test.YtkldjnopapipfaaCmp
namespace Go.Proofs.Ytkldjnopapipfaa
open Go.RowKit

def ScRel (l l' : List ByteArray) (n n' : Nat) (w : World) (v11 : Value) (wr : World) : Prop :=
  ∃ k : Nat, k ≤ n ∧ k ≤ n' ∧ v11 = .int .i64 k ∧ wr = w ∧ lexL cmpS l l' = lexL cmpS (l.drop k) (l'.drop k)

set_option maxHeartbeats 1000000 in
set_option maxRecDepth 100000 in
theorem compareStrs_any (A A' : Option Addr) (n n' c c' : Nat) (l l' : List ByteArray) (w : World) (hn : n ≤ 1000000000000000000) (hn' : n' ≤ 1000000000000000000) (hl : l.length = n) (hl' : l'.length = n')
    (h : Rd w 1 scell A l) (h' : Rd w 1 scell A' l') :
    Calls Try.prog 62 #[.slice A n c, .slice A' n' c'] w fun e w' => e = .returned (.int .i64 (lexL cmpS l l')) ∧ w' = w := by
  have H := hide (And.intro h h'); clear h h'
  go_enter Try.func62, Try.ntmps62
  go_wp2_with fail
  go_loopw [11] (ScRel l l' n n' w) (fun v11 _ => n - (intOf v11).toNat)
  case atStart => exact ⟨0, by omega, by omega, rfl, rfl, by simp⟩
  case round =>
    obtain ⟨k, hk, hk', rfl, rfl, ht⟩ := hrel
    have HT := hide ht; clear ht
    by_cases hlt : k < n
    · by_cases hlt' : k < n'
      · obtain ⟨h, h'⟩ := H.out
        obtain ⟨b, o, x, rfl, hx, _, h1⟩ := h.at_ (k := k) (by omega)
        obtain ⟨b', o', y, rfl, hy, _, h1'⟩ := h'.at_ (k := k) (by omega)
        have a0 : wr.cell? ⟨b, o + k * 1, none⟩ = some (.string x) := h1 0 _ rfl
        have b0 : wr.cell? ⟨b', o' + k * 1, none⟩ = some (.string y) := h1' 0 _ rfl
        rw [Nat.mul_one] at a0 b0
        have HD := hide (lexL_drop cmpS hx hy)
        have hki : (k : Int) < n := by omega
        have hki' : (k : Int) < n' := by omega
        clear hx hy h1 h1' h h'
        obtain ⟨z, hz⟩ : ∃ z, z = cmpS x y := ⟨_, rfl⟩
        have HC := hide (fun w => cmpStr_any x y w)
        rw [← hz] at HC HD
        clear hz
        by_cases hz0 : z = 0
        · subst hz0
          go_wp2_with (go_at_call 100; refine (HC.out _).mono ?_; rintro e w' ⟨rfl, rfl⟩)
          go_roundw
          case rel => exact ⟨k + 1, by omega, by omega, by go_num, rfl, by rw [HT.out, HD.out]; simp⟩
          case measure => simp [intOf]; omega
        · have hz1 : (z == 0) = false := by simpa using hz0
          have hz2 : (z != 0) = true := by simpa using hz0
          have HZ := hide hz0; clear hz0
          go_wp2_with (go_at_call 100; refine (HC.out _).mono ?_; rintro e w' ⟨rfl, rfl⟩)
          go_ret
          exact ⟨by rw [HT.out, HD.out, if_pos HZ.out]; rfl, rfl⟩
      · obtain rfl : k = n' := by omega
        have HE := hide (lexL_end cmpS (l := l) (l' := l') (k := k) (by omega) (by omega) (by omega))
        obtain ⟨b, o, x, rfl, _, _, h1⟩ := H.out.1.at_ (k := k) (by omega)
        have a0 : wr.cell? ⟨b, o + k * 1, none⟩ = some (.string x) := h1 0 _ rfl
        rw [Nat.mul_one] at a0
        have hki : (k : Int) < n := by omega
        clear hlt' hk' h1
        go_wp2
        go_ret
        refine ⟨?_, rfl⟩
        rw [HT.out, HE.out]
        unfold sgn
        rw [if_neg (by omega), if_pos (by omega)]; rfl
    · obtain rfl : k = n := by omega
      have HE := hide (lexL_end cmpS (l := l) (l' := l') (k := k) (by omega) (by omega) (by omega))
      go_wp2
      all_goals
        go_ret
        refine ⟨?_, rfl⟩
        rw [HT.out, HE.out]
        unfold sgn
        first
          | (rw [if_pos (by omega)]; rfl)
          | (rw [if_neg (by omega), if_neg (by omega)]; rfl)

def orL : List Int → Int
  | [] => 0
  | x :: l => orI x (orL l)

theorem orL_drop {l : List Int} {k : Nat} {x : Int} (hx : l[k]? = some x) : orL (l.drop k) = orI x (orL (l.drop (k + 1))) := by
  obtain ⟨hk, rfl⟩ := List.getElem?_eq_some_iff.1 hx
  rw [List.drop_eq_getElem_cons hk, orL]

def OrRel (l : List Int) (n : Nat) (w : World) (v8 : Value) (wr : World) : Prop :=
  ∃ k : Nat, k ≤ n ∧ v8 = .int .i64 k ∧ wr = w ∧ orL l = orL (l.drop k)

set_option maxHeartbeats 1000000 in
set_option maxRecDepth 100000 in
theorem orInts_any (A : Option Addr) (n c : Nat) (l : List Int) (w : World) (hn : n ≤ 1000000000000000000) (hl : l.length = n)
    (h : Rd w 1 icell A l) :
    Calls Try.prog 61 #[.slice A n c] w fun e w' => e = .returned (.int .i64 (orL l)) ∧ w' = w := by
  have H := hide h; clear h
  go_enter Try.func61, Try.ntmps61
  go_wp2_with fail
  go_loopw [8] (OrRel l n w) (fun v8 _ => n - (intOf v8).toNat)
  case atStart => exact ⟨0, by omega, rfl, rfl, by simp⟩
  case round =>
    obtain ⟨k, hk, rfl, rfl, ht⟩ := hrel
    have HT := hide ht; clear ht
    by_cases hlt : k < n
    · obtain ⟨b, o, z, rfl, hx, _, h1⟩ := H.out.at_ (k := k) (by omega)
      have a0 : wr.cell? ⟨b, o + k * 1, none⟩ = some (.int .i64 z) := h1 0 _ rfl
      rw [Nat.mul_one] at a0
      have HD := hide (orL_drop hx)
      have hki : (k : Int) < n := by omega
      clear hx h1
      by_cases hz0 : z = 0
      · subst hz0
        go_wp2_with fail
        go_roundw
        case rel => exact ⟨k + 1, by omega, by go_num, rfl, by rw [HT.out, HD.out]; simp [orI]⟩
        case measure => simp [intOf]; omega
      · have hz1 : (z == 0) = false := by simpa using hz0
        have hz2 : (z != 0) = true := by simpa using hz0
        have HZ := hide hz0; clear hz0
        go_wp2
        go_ret
        exact ⟨by rw [HT.out, HD.out, orI, if_pos HZ.out]; rfl, rfl⟩
    · go_wp2
      go_ret
      exact ⟨by rw [HT.out, List.drop_of_length_le (by omega)]; rfl, rfl⟩
end Go.Proofs.Ytkldjnopapipfaa
