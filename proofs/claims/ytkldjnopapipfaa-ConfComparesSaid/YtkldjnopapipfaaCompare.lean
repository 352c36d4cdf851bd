/-
  conf.Compare and the reference's CompareOf: both answer the order of the two values ('cmpN').
-/
import Derived.Test.YtkldjnopapipfaaCmp2
import Derived.BigRegion
import Derived.Deep.RegionHeld3
import Derived.Deep.DrawnRows
namespace Go.Proofs.Ytkldjnopapipfaa
open Go.RowKit
attribute [local go_sem ↓] Go.wp_at_zero Go.wp_at_succ

def CmpPost (r : Int) (w : World) (e : Ending) (w' : World) : Prop := e = .returned (.int .i64 r) ∧ Below w.heap.size w w'

/-- The call's own two blocks, as far as the loops read them. -/
structure CmpOwn (w W : World) (u u' u2 u2' : Value) : Prop where
  below : Below w.heap.size w W
  s0 : W.cell? ⟨w.heap.size, 4, none⟩ = some u
  s1 : W.cell? ⟨w.heap.size, 5, none⟩ = some u'
  s2 : W.cell? ⟨w.heap.size + 1, 4, none⟩ = some u2
  s3 : W.cell? ⟨w.heap.size + 1, 5, none⟩ = some u2'

theorem CmpOwn.keep {w W W' : World} {u u' u2 u2' : Value} (h : CmpOwn w W u u' u2 u2') (hb : Below W.heap.size W W') : CmpOwn w W' u u' u2 u2' :=
  have k {a : Addr} {v : Value} (hc : W.cell? a = some v) : W'.cell? a = some v := (hb.cell (World.block_lt_of_cell? W a hc)).trans hc
  ⟨h.below.trans (hb.mono h.below.size), k h.s0, k h.s1, k h.s2, k h.s3⟩

theorem orI_zero (x : Int) : orI x 0 = x := by unfold orI; split <;> omega
theorem zero_orI (x : Int) : orI 0 x = x := by simp [orI]
theorem orI_ne {x y : Int} (h : x ≠ 0) : orI x y = x := if_pos h
theorem orI_assoc (a b c : Int) : orI (orI a b) c = orI a (orI b c) := by
  unfold orI
  by_cases h : a = 0
  · simp [h]
  · simp [h]

theorem rd_four {w : World} {b : Nat} {z0 z1 z2 z3 : Int} (q0 : w.cell? ⟨b, 0, none⟩ = some (.int .i64 z0)) (q1 : w.cell? ⟨b, 1, none⟩ = some (.int .i64 z1)) (q2 : w.cell? ⟨b, 2, none⟩ = some (.int .i64 z2)) (q3 : w.cell? ⟨b, 3, none⟩ = some (.int .i64 z3)) :
    Rd w 1 icell (some ⟨b, 0, none⟩) [z0, z1, z2, z3] := by
  refine .inr ⟨b, 0, rfl, fun j x hx m u hu => ?_⟩
  match j, hx with
  | 0, hx => cases hx; match m, hu with | 0, hu => cases hu; exact q0
  | 1, hx => cases hx; match m, hu with | 0, hu => cases hu; exact q1
  | 2, hx => cases hx; match m, hu with | 0, hu => cases hu; exact q2
  | 3, hx => cases hx; match m, hu with | 0, hu => cases hu; exact q3

theorem rd_three {w : World} {b : Nat} {z0 z1 z2 : Int} (q0 : w.cell? ⟨b, 0, none⟩ = some (.int .i64 z0)) (q1 : w.cell? ⟨b, 1, none⟩ = some (.int .i64 z1)) (q2 : w.cell? ⟨b, 2, none⟩ = some (.int .i64 z2)) :
    Rd w 1 icell (some ⟨b, 0, none⟩) [z0, z1, z2] := by
  refine .inr ⟨b, 0, rfl, fun j x hx m u hu => ?_⟩
  match j, hx with
  | 0, hx => cases hx; match m, hu with | 0, hu => cases hu; exact q0
  | 1, hx => cases hx; match m, hu with | 0, hu => cases hu; exact q1
  | 2, hx => cases hx; match m, hu with | 0, hu => cases hu; exact q2

theorem cell_alloc {w : World} {o : Obj} {a : Addr} {v : Value} (h : w.cell? a = some v) : (w.alloc o).cell? a = some v :=
  ((Below.alloc (Below.refl w.heap.size w) (Nat.le_refl _) o).cell (World.block_lt_of_cell? w a h)).trans h
theorem cell_drew {w : World} {a : Addr} {v : Value} (h : w.cell? a = some v) : w.drew.cell? a = some v :=
  ((Below.drew (Below.refl w.heap.size w)).cell (World.block_lt_of_cell? w a h)).trans h

theorem keepc {w w' : World} {a : Addr} {v : Value} (hb : Below w.heap.size w w') (h : w.cell? a = some v) : w'.cell? a = some v :=
  (hb.cell (World.block_lt_of_cell? w a h)).trans h

theorem at_world {K : Act → World → Prop} {a : Act} {W : World} (F : World → Prop) (hF : F W) (h : ∀ W', F W' → K a W') : K a W := h W hF

def HeadRel (L : List Int) (W : World) (v : Value) (wr : World) : Prop := ∃ k : Nat, k ≤ 4 ∧ v = .int .i64 k ∧ wr = W ∧ orL L = orL (L.drop k)
def KeysRel (l l' : List ByteArray) (n n' : Nat) (w : World) (u u' u2 u2' : Value) (v : Value) (wr : World) : Prop :=
  ∃ k : Nat, k ≤ n ∧ k ≤ n' ∧ v = .int .i64 k ∧ CmpOwn w wr u u' u2 u2' ∧ lexL cmpS l l' = lexL cmpS (l.drop k) (l'.drop k)
def ItemsRel (c : Val → Val → Int) (l l' : List Val) (n n' : Nat) (w : World) (u u' u2 u2' : Value) (v : Value) (wr : World) : Prop :=
  ∃ k : Nat, k ≤ n ∧ k ≤ n' ∧ v = .int .i64 k ∧ CmpOwn w wr u u' u2 u2' ∧ lexL c l l' = lexL c (l.drop k) (l'.drop k)

def CmpIH (f : Nat) (N : Nat) : Prop := ∀ (x y : Val) (M : Nat) (w : World), VR w N x → VR w M y → Calls Try.prog f #[x.val, y.val] w (CmpPost (cmpN N x y) w)

set_option maxHeartbeats 4000000 in
set_option maxRecDepth 100000 in
theorem compare_step (N M : Nat) (k : Int) (b : Bool) (i : Int) (t : ByteArray) (A : Option Addr) (n c : Nat) (A' : Option Addr) (n' c' : Nat) (items : List Val) (keys : List ByteArray)
    (k2 : Int) (b2 : Bool) (i2 : Int) (t2 : ByteArray) (A2 : Option Addr) (n2 c2 : Nat) (A2' : Option Addr) (n2' c2' : Nat) (items2 : List Val) (keys2 : List ByteArray) (w : World)
    (hv : VR w (N + 1) (.mk k b i t A n c A' n' c' items keys)) (hv2 : VR w (M + 1) (.mk k2 b2 i2 t2 A2 n2 c2 A2' n2' c2' items2 keys2))
    (hcN : CmpIH 18 N) :
    Calls Try.prog 18 #[.agg #[.int .i64 k, .bool b, .int .i64 i, .string t, .slice A n c, .slice A' n' c'], .agg #[.int .i64 k2, .bool b2, .int .i64 i2, .string t2, .slice A2 n2 c2, .slice A2' n2' c2']] w
      (CmpPost (orI (cmpHead (.mk k b i t A n c A' n' c' items keys) (.mk k2 b2 i2 t2 A2 n2 c2 A2' n2' c2' items2 keys2)) (orI (lexL cmpS keys keys2) (lexL (cmpN N) items items2))) w) := by
  obtain ⟨z0, h0⟩ : ∃ z, z = sgn k k2 := ⟨_, rfl⟩
  obtain ⟨z1, h1⟩ : ∃ z, z = sgn (bitI b) (bitI b2) := ⟨_, rfl⟩
  obtain ⟨z2, h2⟩ : ∃ z, z = sgn i i2 := ⟨_, rfl⟩
  obtain ⟨z3, h3⟩ : ∃ z, z = cmpS t t2 := ⟨_, rfl⟩
  obtain ⟨B1, hB1⟩ : ∃ z, z = bitI b := ⟨_, rfl⟩
  obtain ⟨B2, hB2⟩ : ∃ z, z = bitI b2 := ⟨_, rfl⟩
  have C0 := hide (fun w => sign_any k k2 w)
  have C1 := hide (fun w => sign_any (bitI b) (bitI b2) w)
  have C2 := hide (fun w => sign_any i i2 w)
  have C3 := hide (fun w => compareS_any t t2 w)
  have Ca := hide (fun w => bit_any b w)
  have Cb := hide (fun w => bit_any b2 w)
  have HH : cmpHead (.mk k b i t A n c A' n' c' items keys) (.mk k2 b2 i2 t2 A2 n2 c2 A2' n2' c2' items2 keys2) = orL [z0, z1, z2, z3] := by
    rw [cmpHead, ← h0, ← h1, ← h2, ← h3]; simp only [orL, orI_zero]
  rw [HH]
  clear HH
  rw [← h0] at C0
  rw [← hB1, ← hB2] at h1 C1
  rw [← h1] at C1
  rw [← h2] at C2
  rw [← h3] at C3
  rw [← hB1] at Ca
  rw [← hB2] at Cb
  clear h0 h1 h2 h3 hB1 hB2
  obtain ⟨L, hL⟩ : ∃ L, L = [z0, z1, z2, z3] := ⟨_, rfl⟩
  rw [← hL]
  have HL := hide hL
  clear hL
  obtain ⟨R, hR⟩ : ∃ R, R = orI (orL L) (orI (lexL cmpS keys keys2) (lexL (cmpN N) items items2)) := ⟨_, rfl⟩
  rw [← hR]
  have HR := hide hR
  clear hR
  obtain ⟨hk, hi, ht, hn, hn', hsl, hsl', hr, hr', hkz, hit⟩ := hv
  obtain ⟨hk2, hi2, ht2, hn2, hn2', hsl2, hsl2', hr2, hr2', hkz2, hit2⟩ := hv2
  have g1 : n ≤ 1000000000000000 := by have := hsl.nc; have := hsl.cb; omega
  have g2 : n2 ≤ 1000000000000000 := by have := hsl2.nc; have := hsl2.cb; omega
  have g3 : n' ≤ 1000000000000000 := by have := hsl'.nc; have := hsl'.cb; omega
  have g4 : n2' ≤ 1000000000000000 := by have := hsl2'.nc; have := hsl2'.cb; omega
  have HV := hide (And.intro hr (And.intro hr' (And.intro hr2 (And.intro hr2' (And.intro hit (And.intro hit2 (And.intro hn (And.intro hn' (And.intro hn2 hn2')))))))))
  clear hk hi ht hn hn' hsl hsl' hr hr' hkz hit hk2 hi2 ht2 hn2 hn2' hsl2 hsl2' hr2 hr2' hkz2 hit2
  have HC := hide hcN
  clear hcN
  go_enter Try.func18, Try.ntmps18
  go_wp2_with fail
  go_region_held3 (fun w' => w'.cell? ⟨w.heap.size, 0, none⟩ = some (.int .i64 k) ∧ w'.cell? ⟨w.heap.size + 1, 0, none⟩ = some (.int .i64 k2) ∧ w'.cell? ⟨w.heap.size, 1, none⟩ = some (.bool b) ∧ w'.cell? ⟨w.heap.size + 1, 1, none⟩ = some (.bool b2) ∧
     w'.cell? ⟨w.heap.size, 2, none⟩ = some (.int .i64 i) ∧ w'.cell? ⟨w.heap.size + 1, 2, none⟩ = some (.int .i64 i2) ∧ w'.cell? ⟨w.heap.size, 3, none⟩ = some (.string t) ∧ w'.cell? ⟨w.heap.size + 1, 3, none⟩ = some (.string t2)) (go_keep)
    (first
      | (go_at_call 59; refine (C3.out _).mono ?_; rintro e w' ⟨rfl, rfl⟩)
      | (go_at_call_of 58 (Value.bool b); refine (Ca.out _).mono ?_; rintro e w' ⟨rfl, rfl⟩)
      | (go_at_call_of 58 (Value.bool b2); refine (Cb.out _).mono ?_; rintro e w' ⟨rfl, rfl⟩)
      | (go_at_call_of 57 (Value.int .i64 k); refine (C0.out _).mono ?_; rintro e w' ⟨rfl, rfl⟩)
      | (go_at_call_of 57 (Value.int .i64 B1); refine (C1.out _).mono ?_; rintro e w' ⟨rfl, rfl⟩)
      | (go_at_call_of 57 (Value.int .i64 i); refine (C2.out _).mono ?_; rintro e w' ⟨rfl, rfl⟩))
  rename_i hS
  clear hS
  refine at_world (fun W => CmpOwn w W (.slice A n c) (.slice A' n' c') (.slice A2 n2 c2) (.slice A2' n2' c2') ∧ Rd W 1 icell (some ⟨w.heap.size + 1 + 1, 0, none⟩) L) ?_ ?_
  · refine ⟨⟨?_, ?_, ?_, ?_, ?_⟩, ?_⟩
    · repeat' (first | exact Below.refl _ _ | refine Below.alloc ?_ ?_ _ | refine Below.drew ?_ | (simp; done) | (simp; omega))
    · exact cell_drew (cell_alloc (cell_alloc (by simp)))
    · exact cell_drew (cell_alloc (cell_alloc (by simp)))
    · exact cell_drew (cell_alloc (by simp))
    · exact cell_drew (cell_alloc (by simp))
    · rw [HL.out]
      exact rd_four (cell_drew ((World.cell?_alloc_at _ _ _ _ (by simp)).trans rfl)) (cell_drew ((World.cell?_alloc_at _ _ _ _ (by simp)).trans rfl)) (cell_drew ((World.cell?_alloc_at _ _ _ _ (by simp)).trans rfl)) (cell_drew ((World.cell?_alloc_at _ _ _ _ (by simp)).trans rfl))
  rintro W ⟨hO, hRd⟩
  have HO := hide (And.intro hO hRd)
  clear hO hRd
  go_wp2_with fail
  go_loopw [36] (HeadRel L W) (fun v _ => 4 - (intOf v).toNat)
  case atStart => exact ⟨0, by omega, rfl, rfl, by simp⟩
  case round =>
    obtain ⟨j, hj, rfl, rfl, hor⟩ := hrel
    have HOR := hide hor
    clear hor
    by_cases hlt : j < 4
    · obtain ⟨z, hx⟩ : ∃ z, L[j]? = some z := ⟨_, List.getElem?_eq_getElem (by rw [HL.out]; simpa using hlt)⟩
      obtain ⟨bb, o, z', e1, hx', _, h1⟩ := HO.out.2.at_ (k := j) (by rw [HL.out]; simpa using hlt)
      obtain rfl : z = z' := by rw [hx] at hx'; injection hx'
      cases e1
      have a0 : wr.cell? ⟨w.heap.size + 1 + 1, 0 + j * 1, none⟩ = some (.int .i64 z) := h1 0 _ rfl
      rw [Nat.mul_one, Nat.zero_add] at a0
      have HD := hide (orL_drop hx)
      have hji : (j : Int) < 4 := by omega
      clear hx hx' h1
      have hdone : z = 0 ∨ ((z == 0) = false ∧ (z != 0) = true ∧ Hid (z ≠ 0)) := by
        by_cases hz0 : z = 0
        · exact .inl hz0
        · exact .inr ⟨by simpa using hz0, by simpa using hz0, hz0⟩
      rcases hdone with rfl | ⟨hz1, hz2, HZ⟩
      · go_wp2_with fail
        go_roundw
        case rel => exact ⟨j + 1, by omega, by go_num, rfl, by rw [HOR.out, HD.out, zero_orI]⟩
        case measure => simp [intOf]; omega
      · go_wp2
        go_ret
        exact ⟨by rw [HR.out, HOR.out, HD.out, orI_ne HZ.out, orI_ne HZ.out]; rfl, HO.out.1.below⟩
    · have HL0 : Hid (orL L = 0) := by
        show orL L = 0
        rw [HOR.out, HL.out, List.drop_of_length_le (by simp; omega)]; rfl
      clear HOR
      go_wp2_with fail
      clear hlt hj
      go_loopw [7] (KeysRel keys keys2 n' n2' w (.slice A n c) (.slice A' n' c') (.slice A2 n2 c2) (.slice A2' n2' c2')) (fun v _ => n' - (intOf v).toNat)
      case atStart => exact ⟨0, by omega, by omega, rfl, HO.out.1, by simp⟩
      case round =>
        clear HO
        obtain ⟨j, hj, hj2, rfl, hO, hlx⟩ := hrel
        have HLX := hide hlx
        clear hlx
        have s1 := hO.s1
        have s3 := hO.s3
        have HO := hide hO
        clear hO
        by_cases hlt : j < n' ∧ j < n2'
        · obtain ⟨hlt, hlt2⟩ := hlt
          obtain ⟨hr, hr', hr2, hr2', hit, hit2, hn, hn', hn2, hn2'⟩ := HV.out
          obtain ⟨bb, o, x, rfl, hx, _, h1⟩ := (hr'.keep HO.out.below).at_ (k := j) (by omega)
          obtain ⟨bb2, o2, y, rfl, hy, _, h2⟩ := (hr2'.keep HO.out.below).at_ (k := j) (by omega)
          have HD := hide (lexL_drop cmpS hx hy)
          obtain ⟨z, hz⟩ : ∃ z, z = cmpS x y := ⟨_, rfl⟩
          have HCz := hide (fun w => compareS_any x y w)
          rw [← hz] at HCz HD
          have hji : (j : Int) < n' := by omega
          have hji2 : (j : Int) < n2' := by omega
          have a0 : wr.cell? ⟨bb, o + j * 1, none⟩ = some (.string x) := h1 0 _ rfl
          have b0 : wr.cell? ⟨bb2, o2 + j * 1, none⟩ = some (.string y) := h2 0 _ rfl
          rw [Nat.mul_one] at a0 b0
          clear hr hr' hr2 hr2' hit hit2 hn hn' hn2 hn2' hx hy h1 h2 hz
          have hdone : z = 0 ∨ ((z == 0) = false ∧ (z != 0) = true ∧ Hid (z ≠ 0)) := by
            by_cases hz0 : z = 0
            · exact .inl hz0
            · exact .inr ⟨by simpa using hz0, by simpa using hz0, hz0⟩
          go_wp2_with fail
          go_region_held3 (fun w' => w'.cell? ⟨w.heap.size, 5, none⟩ = some (.slice (some ⟨bb, o, none⟩) n' c') ∧ w'.cell? ⟨w.heap.size + 1, 5, none⟩ = some (.slice (some ⟨bb2, o2, none⟩) n2' c2') ∧ w'.cell? ⟨bb, o + j, none⟩ = some (.string x) ∧ w'.cell? ⟨bb2, o2 + j, none⟩ = some (.string y)) (go_keep)
            ((go_at_call 59; refine (HCz.out _).mono ?_; rintro e w' ⟨rfl, rfl⟩))
          rename_i hS
          clear hS
          rcases hdone with rfl | ⟨hz1, hz2, HZ⟩
          · go_wp2_with fail
            go_roundw
            case rel => exact ⟨j + 1, by omega, by omega, by go_num, HO.out.keep (Below.drew (Below.refl _ _)), by rw [HLX.out, HD.out]; simp⟩
            case measure => simp [intOf]; omega
          · go_wp2_with fail
            go_ret
            exact ⟨by rw [HR.out, HL0.out, zero_orI, HLX.out, HD.out, if_pos HZ.out, orI_ne HZ.out]; rfl, (HO.out.keep (Below.drew (Below.refl _ _))).below⟩
        · have hR : lexL cmpS keys keys2 = sgn n' n2' := by
            obtain ⟨hr, hr', hr2, hr2', hit, hit2, hn, hn', hn2, hn2'⟩ := HV.out
            rw [HLX.out, lexL_end cmpS (by omega) (by omega) (by omega), hn', hn2']
          have HRR := hide hR
          have hex : (¬ j < n') ∨ (j < n' ∧ ¬ j < n2') := by omega
          obtain ⟨z, hz⟩ : ∃ z, z = sgn n' n2' := ⟨_, rfl⟩
          have HCz := hide (fun w => sign_any n' n2' w)
          rw [← hz] at HCz HRR
          clear hR hlt hz
          have hdone : z = 0 ∨ ((z == 0) = false ∧ (z != 0) = true ∧ Hid (z ≠ 0)) := by
            by_cases hz0 : z = 0
            · exact .inl hz0
            · exact .inr ⟨by simpa using hz0, by simpa using hz0, hz0⟩
          rcases hdone with rfl | ⟨hz1, hz2, HZ⟩
          · rcases hex with hlt | ⟨hlt, hlt2⟩
            all_goals
              go_wp2_with (go_at_call 57; refine (HCz.out _).mono ?_; rintro e w' ⟨rfl, rfl⟩)
              go_loopw [10] (ItemsRel (cmpN N) items items2 n n2 w (.slice A n c) (.slice A' n' c') (.slice A2 n2 c2) (.slice A2' n2' c2')) (fun v _ => n - (intOf v).toNat)
              case atStart => exact ⟨0, by omega, by omega, rfl, HO.out, by simp⟩
              case round =>
                obtain ⟨j, hj, hj2, rfl, hO, hlx⟩ := hrel
                have HLX := hide hlx
                clear hlx
                have s0 := hO.s0
                have s2 := hO.s2
                have HO := hide hO
                clear hO
                by_cases hlt : j < n ∧ j < n2
                · obtain ⟨hlt, hlt2⟩ := hlt
                  obtain ⟨hr, hr', hr2, hr2', hit, hit2, hn, hn', hn2, hn2'⟩ := HV.out
                  obtain ⟨bb, o, x, rfl, hx, hm, h1⟩ := (hr.keep HO.out.below).at_ (k := j) (by omega)
                  obtain ⟨bb2, o2, y, rfl, hy, hm2, h2⟩ := (hr2.keep HO.out.below).at_ (k := j) (by omega)
                  have hxv := (hit x hm).keep HO.out.below
                  have hyv := (hit2 y hm2).keep HO.out.below
                  have HD := hide (lexL_drop (cmpN N) hx hy)
                  obtain ⟨z, hz⟩ : ∃ z, z = cmpN N x y := ⟨_, rfl⟩
                  have HCz := hide (fun (w' : World) (hb : Below wr.heap.size wr w') => HC.out x y M w' (hxv.keep hb) (hyv.keep hb))
                  rw [← hz] at HCz HD
                  have hji : (j : Int) < n := by omega
                  have hji2 : (j : Int) < n2 := by omega
                  clear hr hr' hr2 hr2' hit hit2 hn hn' hn2 hn2' hx hy hm hm2 hxv hyv hz
                  obtain ⟨xk, xb, xi, xt, xA, xn, xc, xA', xn', xc', xI, xK⟩ := x
                  obtain ⟨yk, yb, yi, yt, yA, yn, yc, yA', yn', yc', yI, yK⟩ := y
                  have a0 : wr.cell? ⟨bb, o + j * 6, none⟩ = some (.int .i64 xk) := h1 0 _ rfl
                  have a1 : wr.cell? ⟨bb, o + j * 6 + 1, none⟩ = some (.bool xb) := h1 1 _ rfl
                  have a2 : wr.cell? ⟨bb, o + j * 6 + 2, none⟩ = some (.int .i64 xi) := h1 2 _ rfl
                  have a3 : wr.cell? ⟨bb, o + j * 6 + 3, none⟩ = some (.string xt) := h1 3 _ rfl
                  have a4 : wr.cell? ⟨bb, o + j * 6 + 4, none⟩ = some (.slice xA xn xc) := h1 4 _ rfl
                  have a5 : wr.cell? ⟨bb, o + j * 6 + 5, none⟩ = some (.slice xA' xn' xc') := h1 5 _ rfl
                  have b0 : wr.cell? ⟨bb2, o2 + j * 6, none⟩ = some (.int .i64 yk) := h2 0 _ rfl
                  have b1 : wr.cell? ⟨bb2, o2 + j * 6 + 1, none⟩ = some (.bool yb) := h2 1 _ rfl
                  have b2 : wr.cell? ⟨bb2, o2 + j * 6 + 2, none⟩ = some (.int .i64 yi) := h2 2 _ rfl
                  have b3 : wr.cell? ⟨bb2, o2 + j * 6 + 3, none⟩ = some (.string yt) := h2 3 _ rfl
                  have b4 : wr.cell? ⟨bb2, o2 + j * 6 + 4, none⟩ = some (.slice yA yn yc) := h2 4 _ rfl
                  have b5 : wr.cell? ⟨bb2, o2 + j * 6 + 5, none⟩ = some (.slice yA' yn' yc') := h2 5 _ rfl
                  have HCz2 : Hid (∀ (w' : World), Below wr.heap.size wr w' → Calls Try.prog 18 #[.agg #[.int .i64 xk, .bool xb, .int .i64 xi, .string xt, .slice xA xn xc, .slice xA' xn' xc'], .agg #[.int .i64 yk, .bool yb, .int .i64 yi, .string yt, .slice yA yn yc, .slice yA' yn' yc']] w' (CmpPost z w')) := HCz
                  clear HCz h1 h2
                  have hdone : z = 0 ∨ ((z == 0) = false ∧ (z != 0) = true ∧ Hid (z ≠ 0)) := by
                    by_cases hz0 : z = 0
                    · exact .inl hz0
                    · exact .inr ⟨by simpa using hz0, by simpa using hz0, hz0⟩
                  go_wp2_with fail
                  go_region_held3 (fun w' => w'.cell? ⟨w.heap.size, 4, none⟩ = some (.slice (some ⟨bb, o, none⟩) n c) ∧ w'.cell? ⟨w.heap.size + 1, 4, none⟩ = some (.slice (some ⟨bb2, o2, none⟩) n2 c2) ∧ w'.cell? ⟨bb, o + j * 6, none⟩ = some (.int .i64 xk) ∧ w'.cell? ⟨bb, o + j * 6 + 1, none⟩ = some (.bool xb) ∧ w'.cell? ⟨bb, o + j * 6 + 2, none⟩ = some (.int .i64 xi) ∧ w'.cell? ⟨bb, o + j * 6 + 3, none⟩ = some (.string xt) ∧ w'.cell? ⟨bb, o + j * 6 + 4, none⟩ = some (.slice xA xn xc) ∧ w'.cell? ⟨bb, o + j * 6 + 5, none⟩ = some (.slice xA' xn' xc') ∧ w'.cell? ⟨bb2, o2 + j * 6, none⟩ = some (.int .i64 yk) ∧ w'.cell? ⟨bb2, o2 + j * 6 + 1, none⟩ = some (.bool yb) ∧ w'.cell? ⟨bb2, o2 + j * 6 + 2, none⟩ = some (.int .i64 yi) ∧ w'.cell? ⟨bb2, o2 + j * 6 + 3, none⟩ = some (.string yt) ∧ w'.cell? ⟨bb2, o2 + j * 6 + 4, none⟩ = some (.slice yA yn yc) ∧ w'.cell? ⟨bb2, o2 + j * 6 + 5, none⟩ = some (.slice yA' yn' yc')) (first | go_keep | exact ⟨keepc ((Below.drew (Below.refl _ _)).trans hb) s0, keepc ((Below.drew (Below.refl _ _)).trans hb) s2, keepc ((Below.drew (Below.refl _ _)).trans hb) a0, keepc ((Below.drew (Below.refl _ _)).trans hb) a1, keepc ((Below.drew (Below.refl _ _)).trans hb) a2, keepc ((Below.drew (Below.refl _ _)).trans hb) a3, keepc ((Below.drew (Below.refl _ _)).trans hb) a4, keepc ((Below.drew (Below.refl _ _)).trans hb) a5, keepc ((Below.drew (Below.refl _ _)).trans hb) b0, keepc ((Below.drew (Below.refl _ _)).trans hb) b1, keepc ((Below.drew (Below.refl _ _)).trans hb) b2, keepc ((Below.drew (Below.refl _ _)).trans hb) b3, keepc ((Below.drew (Below.refl _ _)).trans hb) b4, keepc ((Below.drew (Below.refl _ _)).trans hb) b5⟩)
                    ((go_at_call 18; refine (HCz2.out _ ?_).mono ?_; exact Below.drew (Below.refl _ _); rintro e w1 ⟨rfl, hb⟩))
                  rename_i hS
                  clear hS
                  have HK := hide (HO.out.keep ((Below.drew (Below.refl _ _)).trans hb))
                  rcases hdone with rfl | ⟨hz1, hz2, HZ⟩
                  · go_wp2_with fail
                    go_roundw
                    case rel => exact ⟨j + 1, by omega, by omega, by go_num, HK.out, by rw [HLX.out, HD.out]; simp⟩
                    case measure => simp [intOf]; omega
                  · go_wp2_with fail
                    go_ret
                    exact ⟨by rw [HR.out, HL0.out, zero_orI, HRR.out, zero_orI, HLX.out, HD.out, if_pos HZ.out]; rfl, HK.out.below⟩
                · have hR : R = sgn n n2 := by
                    obtain ⟨hr, hr', hr2, hr2', hit, hit2, hn, hn', hn2, hn2'⟩ := HV.out
                    rw [HR.out, HL0.out, zero_orI, HRR.out, zero_orI, HLX.out, lexL_end (cmpN N) (by omega) (by omega) (by omega), hn, hn2]
                  have HRR := hide hR
                  have hex : (¬ j < n) ∨ (j < n ∧ ¬ j < n2) := by omega
                  clear hR hlt
                  rcases hex with hlt | ⟨hlt, hlt2⟩
                  all_goals
                    go_wp2_with (go_at_call 57; refine (sign_any _ _ _).mono ?_; rintro e w' ⟨rfl, rfl⟩)
                    go_ret
                    exact ⟨by rw [HRR.out]; rfl, HO.out.below⟩
          · rcases hex with hlt | ⟨hlt, hlt2⟩
            all_goals
              go_wp2_with (go_at_call 57; refine (HCz.out _).mono ?_; rintro e w' ⟨rfl, rfl⟩)
              go_ret
              exact ⟨by rw [HR.out, HL0.out, zero_orI, HRR.out, orI_ne HZ.out]; rfl, HO.out.below⟩
end Go.Proofs.Ytkldjnopapipfaa
