/-
  The reference's CompareOf: it answers the order of the two values ('cmpN'); so do both.
-/
import Derived.Test.YtkldjnopapipfaaCompare
namespace Go.Proofs.Ytkldjnopapipfaa
open Go.RowKit
attribute [local go_sem ↓] Go.wp_at_zero Go.wp_at_succ

theorem sgn_bit_ne {b b2 : Bool} (h : b ≠ b2) : sgn (bitI b) (bitI b2) = if b2 then -1 else 1 := by cases b <;> cases b2 <;> first | rfl | exact absurd rfl h
theorem sgn_self (a : Int) : sgn a a = 0 := by unfold sgn; rw [if_neg (by omega), if_neg (by omega)]

set_option maxHeartbeats 4000000 in
set_option maxRecDepth 100000 in
theorem compareOf_step (N M : Nat) (k : Int) (b : Bool) (i : Int) (t : ByteArray) (A : Option Addr) (n c : Nat) (A' : Option Addr) (n' c' : Nat) (items : List Val) (keys : List ByteArray)
    (k2 : Int) (b2 : Bool) (i2 : Int) (t2 : ByteArray) (A2 : Option Addr) (n2 c2 : Nat) (A2' : Option Addr) (n2' c2' : Nat) (items2 : List Val) (keys2 : List ByteArray) (w : World)
    (hv : VR w (N + 1) (.mk k b i t A n c A' n' c' items keys)) (hv2 : VR w (M + 1) (.mk k2 b2 i2 t2 A2 n2 c2 A2' n2' c2' items2 keys2))
    (hcN : CmpIH 19 N) :
    Calls Try.prog 19 #[.agg #[.int .i64 k, .bool b, .int .i64 i, .string t, .slice A n c, .slice A' n' c'], .agg #[.int .i64 k2, .bool b2, .int .i64 i2, .string t2, .slice A2 n2 c2, .slice A2' n2' c2']] w
      (CmpPost (orI (cmpHead (.mk k b i t A n c A' n' c' items keys) (.mk k2 b2 i2 t2 A2 n2 c2 A2' n2' c2' items2 keys2)) (orI (lexL cmpS keys keys2) (lexL (cmpN N) items items2))) w) := by
  obtain ⟨z0, h0⟩ : ∃ z, z = sgn k k2 := ⟨_, rfl⟩
  obtain ⟨z2, h2⟩ : ∃ z, z = sgn i i2 := ⟨_, rfl⟩
  obtain ⟨z3, h3⟩ : ∃ z, z = cmpS t t2 := ⟨_, rfl⟩
  obtain ⟨zk, hzk⟩ : ∃ z, z = lexL cmpS keys keys2 := ⟨_, rfl⟩
  obtain ⟨z6, h6⟩ : ∃ z, z = orL [z2, z3, zk] := ⟨_, rfl⟩
  obtain ⟨R, hR⟩ : ∃ R, R = orI (cmpHead (.mk k b i t A n c A' n' c' items keys) (.mk k2 b2 i2 t2 A2 n2 c2 A2' n2' c2' items2 keys2)) (orI (lexL cmpS keys keys2) (lexL (cmpN N) items items2)) := ⟨_, rfl⟩
  rw [← hR]
  have HR0 : Hid (R = orI z0 (orI (sgn (bitI b) (bitI b2)) (orI z6 (lexL (cmpN N) items items2)))) := by
    show R = _
    rw [hR, cmpHead, ← h0, ← h2, ← h3, ← hzk, h6]
    simp only [orL, orI_zero, orI_assoc]
  clear hR
  have C0 := hide (fun w => cmpInt_any k k2 w)
  have C2 := hide (fun w => cmpInt_any i i2 w)
  have C3 := hide (fun w => compareS_any t t2 w)
  rw [← h0] at C0
  rw [← h2] at C2
  rw [← h3] at C3
  clear h0 h2 h3
  obtain ⟨hk, hi, ht, hn, hn', hsl, hsl', hr, hr', hkz, hit⟩ := hv
  obtain ⟨hk2, hi2, ht2, hn2, hn2', hsl2, hsl2', hr2, hr2', hkz2, hit2⟩ := hv2
  have g1 : n ≤ 1000000000000000 := by have := hsl.nc; have := hsl.cb; omega
  have g2 : n2 ≤ 1000000000000000 := by have := hsl2.nc; have := hsl2.cb; omega
  have g3 : n' ≤ 1000000000000000 := by have := hsl'.nc; have := hsl'.cb; omega
  have g4 : n2' ≤ 1000000000000000 := by have := hsl2'.nc; have := hsl2'.cb; omega
  have HV := hide (And.intro hr (And.intro hr' (And.intro hr2 (And.intro hr2' (And.intro hit (And.intro hit2 (And.intro hn (And.intro hn' (And.intro hn2 hn2')))))))))
  clear hk hi ht hn hn' hsl hsl' hr hr' hkz hit hk2 hi2 ht2 hn2 hn2' hsl2 hsl2' hr2 hr2' hkz2 hit2
  have Ck : Hid (∀ W, Below w.heap.size w W → Calls Try.prog 62 #[.slice A' n' c', .slice A2' n2' c2'] W fun e w' => e = .returned (.int .i64 zk) ∧ w' = W) := by
    intro W hb
    obtain ⟨hr, hr', hr2, hr2', hit, hit2, hn, hn', hn2, hn2'⟩ := HV.out
    have := compareStrs_any A' A2' n' n2' c' c2' keys keys2 W (by omega) (by omega) hn' hn2' (hr'.keep hb) (hr2'.keep hb)
    rw [← hzk] at this
    exact this
  have Co : Hid (∀ W g, Rd W 1 icell (some ⟨g, 0, none⟩) [z2, z3, zk] → Calls Try.prog 61 #[.slice (some ⟨g, 0, none⟩) 3 3] W fun e w' => e = .returned (.int .i64 z6) ∧ w' = W) := by
    intro W g h
    have := orInts_any (some ⟨g, 0, none⟩) 3 3 [z2, z3, zk] W (by omega) rfl h
    rw [← h6] at this
    exact this
  clear h6 hzk
  have HC := hide hcN
  clear hcN
  have hdone : z0 = 0 ∨ ((z0 == 0) = false ∧ (z0 != 0) = true ∧ Hid (z0 ≠ 0)) := by
    by_cases hz0 : z0 = 0
    · exact .inl hz0
    · exact .inr ⟨by simpa using hz0, by simpa using hz0, hz0⟩
  rcases hdone with rfl | ⟨hz1, hz2, HZ⟩
  · by_cases hb : b = b2
    · subst hb
      have HR : Hid (R = orI z6 (lexL (cmpN N) items items2)) := by
        show R = _
        rw [HR0.out, zero_orI, sgn_self, zero_orI]
      clear HR0
      have hbb : (b != b) = false := by simp
      go_enter Try.func19, Try.ntmps19
      go_wp2_with (go_at_call 60; refine (C0.out _).mono ?_; rintro e w' ⟨rfl, rfl⟩)
      go_region_held3 (fun w' => w'.cell? ⟨w.heap.size, 2, none⟩ = some (.int .i64 i) ∧ w'.cell? ⟨w.heap.size, 3, none⟩ = some (.string t) ∧ w'.cell? ⟨w.heap.size, 5, none⟩ = some (.slice A' n' c') ∧ w'.cell? ⟨w.heap.size + 1, 2, none⟩ = some (.int .i64 i2) ∧ w'.cell? ⟨w.heap.size + 1, 3, none⟩ = some (.string t2) ∧ w'.cell? ⟨w.heap.size + 1, 5, none⟩ = some (.slice A2' n2' c2')) (go_keep)
        (first
          | (go_at_call 59; refine (C3.out _).mono ?_; rintro e w' ⟨rfl, rfl⟩)
          | (go_at_call 60; refine (C2.out _).mono ?_; rintro e w' ⟨rfl, rfl⟩)
          | (go_at_call 62; refine (Ck.out _ (by (repeat' (first | exact Below.refl _ _ | refine Below.alloc ?_ ?_ _ | refine Below.drew ?_ | (simp; done) | (simp; omega))))).mono ?_; rintro e w' ⟨rfl, rfl⟩)
          | (go_at_call 61; refine (Co.out _ _ (by first | exact rd_three ((World.cell?_alloc_at _ _ _ _ (by simp)).trans rfl) ((World.cell?_alloc_at _ _ _ _ (by simp)).trans rfl) ((World.cell?_alloc_at _ _ _ _ (by simp)).trans rfl) | exact rd_three (cell_drew ((World.cell?_alloc_at _ _ _ _ (by simp)).trans rfl)) (cell_drew ((World.cell?_alloc_at _ _ _ _ (by simp)).trans rfl)) (cell_drew ((World.cell?_alloc_at _ _ _ _ (by simp)).trans rfl)))).mono ?_; rintro e w' ⟨rfl, rfl⟩))
      rename_i hS
      clear hS
      refine at_world (fun W => CmpOwn w W (.slice A n c) (.slice A' n' c') (.slice A2 n2 c2) (.slice A2' n2' c2')) ?_ ?_
      · refine ⟨?_, ?_, ?_, ?_, ?_⟩
        · repeat' (first | exact Below.refl _ _ | refine Below.alloc ?_ ?_ _ | refine Below.drew ?_ | (simp; done) | (simp; omega))
        · exact cell_drew (cell_alloc (cell_alloc (by simp)))
        · exact cell_drew (cell_alloc (cell_alloc (by simp)))
        · exact cell_drew (cell_alloc (by simp))
        · exact cell_drew (cell_alloc (by simp))
      rintro W hO
      have HO := hide hO
      clear hO
      have hdone : z6 = 0 ∨ ((z6 == 0) = false ∧ (z6 != 0) = true ∧ Hid (z6 ≠ 0)) := by
        by_cases hz0 : z6 = 0
        · exact .inl hz0
        · exact .inr ⟨by simpa using hz0, by simpa using hz0, hz0⟩
      rcases hdone with rfl | ⟨hz1, hz2, HZ⟩
      · have HR1 : Hid (R = lexL (cmpN N) items items2) := by
          show R = _
          rw [HR.out, zero_orI]
        clear HR
        have HR := HR1
        clear HR1
        go_wp2_with fail
        go_loopw [7] (ItemsRel (cmpN N) items items2 n n2 w (.slice A n c) (.slice A' n' c') (.slice A2 n2 c2) (.slice A2' n2' c2')) (fun v _ => n - (intOf v).toNat)
        case atStart => exact ⟨0, by omega, by omega, rfl, HO.out, by simp⟩
        case round =>
          obtain ⟨j, hj, hj2, rfl, hO, hlx⟩ := hrel
          have HLX := hide hlx
          clear hlx
          have s0 := hO.s0
          have s2 := hO.s2
          have HO := hide hO
          clear hO
          by_cases hlt : j < n ∧ j < n2
          · obtain ⟨hlt, hlt2⟩ := hlt
            obtain ⟨hr, hr', hr2, hr2', hit, hit2, hn, hn', hn2, hn2'⟩ := HV.out
            obtain ⟨bb, o, x, rfl, hx, hm, h1⟩ := (hr.keep HO.out.below).at_ (k := j) (by omega)
            obtain ⟨bb2, o2, y, rfl, hy, hm2, h2⟩ := (hr2.keep HO.out.below).at_ (k := j) (by omega)
            have hxv := (hit x hm).keep HO.out.below
            have hyv := (hit2 y hm2).keep HO.out.below
            have HD := hide (lexL_drop (cmpN N) hx hy)
            obtain ⟨z, hz⟩ : ∃ z, z = cmpN N x y := ⟨_, rfl⟩
            have HCz := hide (fun (w' : World) (hb : Below wr.heap.size wr w') => HC.out x y M w' (hxv.keep hb) (hyv.keep hb))
            rw [← hz] at HCz HD
            have hji : (j : Int) < n := by omega
            have hji2 : (j : Int) < n2 := by omega
            clear hr hr' hr2 hr2' hit hit2 hn hn' hn2 hn2' hx hy hm hm2 hxv hyv hz
            obtain ⟨xk, xb, xi, xt, xA, xn, xc, xA', xn', xc', xI, xK⟩ := x
            obtain ⟨yk, yb, yi, yt, yA, yn, yc, yA', yn', yc', yI, yK⟩ := y
            have a0 : wr.cell? ⟨bb, o + j * 6, none⟩ = some (.int .i64 xk) := h1 0 _ rfl
            have a1 : wr.cell? ⟨bb, o + j * 6 + 1, none⟩ = some (.bool xb) := h1 1 _ rfl
            have a2 : wr.cell? ⟨bb, o + j * 6 + 2, none⟩ = some (.int .i64 xi) := h1 2 _ rfl
            have a3 : wr.cell? ⟨bb, o + j * 6 + 3, none⟩ = some (.string xt) := h1 3 _ rfl
            have a4 : wr.cell? ⟨bb, o + j * 6 + 4, none⟩ = some (.slice xA xn xc) := h1 4 _ rfl
            have a5 : wr.cell? ⟨bb, o + j * 6 + 5, none⟩ = some (.slice xA' xn' xc') := h1 5 _ rfl
            have b0 : wr.cell? ⟨bb2, o2 + j * 6, none⟩ = some (.int .i64 yk) := h2 0 _ rfl
            have b1 : wr.cell? ⟨bb2, o2 + j * 6 + 1, none⟩ = some (.bool yb) := h2 1 _ rfl
            have b2 : wr.cell? ⟨bb2, o2 + j * 6 + 2, none⟩ = some (.int .i64 yi) := h2 2 _ rfl
            have b3 : wr.cell? ⟨bb2, o2 + j * 6 + 3, none⟩ = some (.string yt) := h2 3 _ rfl
            have b4 : wr.cell? ⟨bb2, o2 + j * 6 + 4, none⟩ = some (.slice yA yn yc) := h2 4 _ rfl
            have b5 : wr.cell? ⟨bb2, o2 + j * 6 + 5, none⟩ = some (.slice yA' yn' yc') := h2 5 _ rfl
            have HCz2 : Hid (∀ (w' : World), Below wr.heap.size wr w' → Calls Try.prog 19 #[.agg #[.int .i64 xk, .bool xb, .int .i64 xi, .string xt, .slice xA xn xc, .slice xA' xn' xc'], .agg #[.int .i64 yk, .bool yb, .int .i64 yi, .string yt, .slice yA yn yc, .slice yA' yn' yc']] w' (CmpPost z w')) := HCz
            clear HCz h1 h2
            have hdone : z = 0 ∨ ((z == 0) = false ∧ (z != 0) = true ∧ Hid (z ≠ 0)) := by
              by_cases hz0 : z = 0
              · exact .inl hz0
              · exact .inr ⟨by simpa using hz0, by simpa using hz0, hz0⟩
            go_wp2_with fail
            go_region_held3 (fun w' => w'.cell? ⟨w.heap.size, 4, none⟩ = some (.slice (some ⟨bb, o, none⟩) n c) ∧ w'.cell? ⟨w.heap.size + 1, 4, none⟩ = some (.slice (some ⟨bb2, o2, none⟩) n2 c2) ∧ w'.cell? ⟨bb, o + j * 6, none⟩ = some (.int .i64 xk) ∧ w'.cell? ⟨bb, o + j * 6 + 1, none⟩ = some (.bool xb) ∧ w'.cell? ⟨bb, o + j * 6 + 2, none⟩ = some (.int .i64 xi) ∧ w'.cell? ⟨bb, o + j * 6 + 3, none⟩ = some (.string xt) ∧ w'.cell? ⟨bb, o + j * 6 + 4, none⟩ = some (.slice xA xn xc) ∧ w'.cell? ⟨bb, o + j * 6 + 5, none⟩ = some (.slice xA' xn' xc') ∧ w'.cell? ⟨bb2, o2 + j * 6, none⟩ = some (.int .i64 yk) ∧ w'.cell? ⟨bb2, o2 + j * 6 + 1, none⟩ = some (.bool yb) ∧ w'.cell? ⟨bb2, o2 + j * 6 + 2, none⟩ = some (.int .i64 yi) ∧ w'.cell? ⟨bb2, o2 + j * 6 + 3, none⟩ = some (.string yt) ∧ w'.cell? ⟨bb2, o2 + j * 6 + 4, none⟩ = some (.slice yA yn yc) ∧ w'.cell? ⟨bb2, o2 + j * 6 + 5, none⟩ = some (.slice yA' yn' yc')) (first | go_keep | exact ⟨keepc ((Below.drew (Below.refl _ _)).trans hb) s0, keepc ((Below.drew (Below.refl _ _)).trans hb) s2, keepc ((Below.drew (Below.refl _ _)).trans hb) a0, keepc ((Below.drew (Below.refl _ _)).trans hb) a1, keepc ((Below.drew (Below.refl _ _)).trans hb) a2, keepc ((Below.drew (Below.refl _ _)).trans hb) a3, keepc ((Below.drew (Below.refl _ _)).trans hb) a4, keepc ((Below.drew (Below.refl _ _)).trans hb) a5, keepc ((Below.drew (Below.refl _ _)).trans hb) b0, keepc ((Below.drew (Below.refl _ _)).trans hb) b1, keepc ((Below.drew (Below.refl _ _)).trans hb) b2, keepc ((Below.drew (Below.refl _ _)).trans hb) b3, keepc ((Below.drew (Below.refl _ _)).trans hb) b4, keepc ((Below.drew (Below.refl _ _)).trans hb) b5⟩)
              ((go_at_call 19; refine (HCz2.out _ ?_).mono ?_; exact Below.drew (Below.refl _ _); rintro e w1 ⟨rfl, hb⟩))
            rename_i hS
            clear hS
            have HK := hide (HO.out.keep ((Below.drew (Below.refl _ _)).trans hb))
            rcases hdone with rfl | ⟨hz1, hz2, HZ⟩
            · go_wp2_with fail
              go_roundw
              case rel => exact ⟨j + 1, by omega, by omega, by go_num, HK.out, by rw [HLX.out, HD.out]; simp⟩
              case measure => simp [intOf]; omega
            · go_wp2_with fail
              go_ret
              exact ⟨by rw [HR.out, HLX.out, HD.out, if_pos HZ.out]; rfl, HK.out.below⟩
          · have hR : R = sgn n n2 := by
              obtain ⟨hr, hr', hr2, hr2', hit, hit2, hn, hn', hn2, hn2'⟩ := HV.out
              rw [HR.out, HLX.out, lexL_end (cmpN N) (by omega) (by omega) (by omega), hn, hn2]
            have HRR := hide hR
            have hex : (¬ j < n) ∨ (j < n ∧ ¬ j < n2) := by omega
            clear hR hlt
            rcases hex with hlt | ⟨hlt, hlt2⟩
            all_goals
              go_wp2_with (go_at_call 60; refine (cmpInt_any _ _ _).mono ?_; rintro e w' ⟨rfl, rfl⟩)
              go_ret
              exact ⟨by rw [HRR.out]; rfl, HO.out.below⟩

      · go_wp2_with fail
        go_ret
        exact ⟨by rw [HR.out, orI_ne HZ.out]; rfl, HO.out.below⟩
    · have HR : Hid (R = if b2 then -1 else 1) := by
        show R = _
        rw [HR0.out, zero_orI, sgn_bit_ne hb]
        cases b2 <;> simp [orI]
      clear HR0
      cases b <;> cases b2
      all_goals try (exact absurd rfl hb)
      all_goals
        go_enter Try.func19, Try.ntmps19
        go_wp2_with (go_at_call 60; refine (C0.out _).mono ?_; rintro e w' ⟨rfl, rfl⟩)
        go_ret
        exact ⟨by rw [HR.out]; rfl, by repeat' (first | exact Below.refl _ _ | refine Below.alloc ?_ ?_ _ | refine Below.drew ?_ | (simp; done) | (simp; omega))⟩
  · go_enter Try.func19, Try.ntmps19
    go_wp2_with (go_at_call 60; refine (C0.out _).mono ?_; rintro e w' ⟨rfl, rfl⟩)
    go_ret
    exact ⟨by rw [HR0.out, orI_ne HZ.out]; rfl, by repeat' (first | exact Below.refl _ _ | refine Below.alloc ?_ ?_ _ | refine Below.drew ?_ | (simp; done) | (simp; omega))⟩

theorem compare_any : ∀ N : Nat, CmpIH 18 N
  | 0 => fun x y M w h _ => by simp [VR] at h
  | N + 1 => fun x y M w h h' => by
    match M, h' with
    | 0, h' => simp [VR] at h'
    | M + 1, h' =>
      obtain ⟨k, b, i, t, A, n, c, A', n', c', items, keys⟩ := x
      obtain ⟨k2, b2, i2, t2, A2, n2, c2, A2', n2', c2', items2, keys2⟩ := y
      exact compare_step N M k b i t A n c A' n' c' items keys k2 b2 i2 t2 A2 n2 c2 A2' n2' c2' items2 keys2 w h h' (compare_any N)
theorem compareOf_any : ∀ N : Nat, CmpIH 19 N
  | 0 => fun x y M w h _ => by simp [VR] at h
  | N + 1 => fun x y M w h h' => by
    match M, h' with
    | 0, h' => simp [VR] at h'
    | M + 1, h' =>
      obtain ⟨k, b, i, t, A, n, c, A', n', c', items, keys⟩ := x
      obtain ⟨k2, b2, i2, t2, A2, n2, c2, A2', n2', c2', items2, keys2⟩ := y
      exact compareOf_step N M k b i t A n c A' n' c' items keys k2 b2 i2 t2 A2 n2 c2 A2' n2' c2' items2 keys2 w h h' (compareOf_any N)
end Go.Proofs.Ytkldjnopapipfaa
