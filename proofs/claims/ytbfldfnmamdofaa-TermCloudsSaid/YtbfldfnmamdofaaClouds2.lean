/-
  slices.Min and slices.Max at []int; the reference's Cloud.
-/
import Derived.Test.YtbfldfnmamdofaaClouds
import Derived.WalkLawsBesides
namespace Go.Proofs.Ytbfldfnmamdofaa.clouds
open Go.RowKit
set_option linter.unusedVariables false

def MinRel (L : List Int) (v3 v4 : Value) : Prop := ∃ (k : Nat) (m : Int), 1 ≤ k ∧ k ≤ L.length ∧ v4 = .int .i64 k ∧ v3 = .int .i64 m ∧ IsMin (L.take k) m

set_option maxHeartbeats 400000 in
theorem slicesMin (A : Option Addr) (n c : Nat) (L : List Int) (w : World) (hl : L.length = n) (hn0 : 0 < n) (hn : n ≤ 1000000000000000000) (hr : Rd w 1 icell A L) :
    Calls Try.prog 61 #[.slice A n c] w fun e w' => (∃ m, e = .returned (.int .i64 m) ∧ IsMin L m) ∧ w = w' := by
  have HR := hide hr
  have hl1 : L.length ≤ n := by omega
  have hl2 : n ≤ L.length := by omega
  obtain ⟨b, o, x, rfl, hx, _, hc⟩ := hr.at_ (k := 0) (by omega)
  have a0 : w.cell? ⟨b, o + 0 * 1 + 0, none⟩ = some (.int .i64 x) := hc 0 _ rfl
  rw [Nat.zero_mul, Nat.add_zero] at a0
  have hni : (1 : Int) ≤ n := by omega
  have HX := hide (And.intro hl hx)
  clear hl hx hc hr
  go_enter Try.func61, Try.ntmps61
  go_wp2_with fail
  go_loop [3, 4] (MinRel L) (fun _ v4 => n - (intOf v4).toNat)
  case atStart =>
    refine ⟨1, x, by omega, by omega, rfl, rfl, ?_⟩
    have : L.take 1 = [x] := by rw [show 1 = 0 + 1 from rfl, List.take_add_one, HX.out.2]; simp
    rw [this]
    exact isMin_one x
  case round =>
    obtain ⟨k, m, hk1, hk2, rfl, rfl, hm⟩ := hrel
    have HM := hide hm
    clear hm
    by_cases hlt : k < n
    · obtain ⟨b', o', y, hA, hy, _, hc⟩ := HR.out.at_ (k := k) (by omega)
      injection hA with hA
      injection hA with hb ho
      subst hb ho
      have b0 : w.cell? ⟨b, o + k * 1, none⟩ = some (.int .i64 y) := hc 0 _ rfl
      rw [Nat.mul_one] at b0
      have hki : (k : Int) < n := by omega
      have HY := hide hy
      clear hy hc
      go_wp2_with fail
      go_round
      case rel =>
        refine ⟨k + 1, _, by omega, by omega, by go_num, rfl, ?_⟩
        rw [List.take_add_one, HY.out]
        exact isMin_snoc HM.out
      case measure => simp [intOf]; omega
    · go_wp2
      go_ret
      have h1 := HM.out
      rw [List.take_of_length_le (by omega)] at h1
      exact ⟨⟨m, rfl, h1⟩, rfl⟩

def MaxRel (L : List Int) (v3 v4 : Value) : Prop := ∃ (k : Nat) (m : Int), 1 ≤ k ∧ k ≤ L.length ∧ v4 = .int .i64 k ∧ v3 = .int .i64 m ∧ IsMax (L.take k) m

set_option maxHeartbeats 400000 in
theorem slicesMax (A : Option Addr) (n c : Nat) (L : List Int) (w : World) (hl : L.length = n) (hn0 : 0 < n) (hn : n ≤ 1000000000000000000) (hr : Rd w 1 icell A L) :
    Calls Try.prog 62 #[.slice A n c] w fun e w' => (∃ m, e = .returned (.int .i64 m) ∧ IsMax L m) ∧ w = w' := by
  have HR := hide hr
  have hl1 : L.length ≤ n := by omega
  have hl2 : n ≤ L.length := by omega
  obtain ⟨b, o, x, rfl, hx, _, hc⟩ := hr.at_ (k := 0) (by omega)
  have a0 : w.cell? ⟨b, o + 0 * 1 + 0, none⟩ = some (.int .i64 x) := hc 0 _ rfl
  rw [Nat.zero_mul, Nat.add_zero] at a0
  have hni : (1 : Int) ≤ n := by omega
  have HX := hide (And.intro hl hx)
  clear hl hx hc hr
  go_enter Try.func62, Try.ntmps62
  go_wp2_with fail
  go_loop [3, 4] (MaxRel L) (fun _ v4 => n - (intOf v4).toNat)
  case atStart =>
    refine ⟨1, x, by omega, by omega, rfl, rfl, ?_⟩
    have : L.take 1 = [x] := by rw [show 1 = 0 + 1 from rfl, List.take_add_one, HX.out.2]; simp
    rw [this]
    exact isMax_one x
  case round =>
    obtain ⟨k, m, hk1, hk2, rfl, rfl, hm⟩ := hrel
    have HM := hide hm
    clear hm
    by_cases hlt : k < n
    · obtain ⟨b', o', y, hA, hy, _, hc⟩ := HR.out.at_ (k := k) (by omega)
      injection hA with hA
      injection hA with hb ho
      subst hb ho
      have b0 : w.cell? ⟨b, o + k * 1, none⟩ = some (.int .i64 y) := hc 0 _ rfl
      rw [Nat.mul_one] at b0
      have hki : (k : Int) < n := by omega
      have HY := hide hy
      clear hy hc
      go_wp2_with fail
      go_round
      case rel =>
        refine ⟨k + 1, _, by omega, by omega, by go_num, rfl, ?_⟩
        rw [List.take_add_one, HY.out]
        exact isMax_snoc HM.out
      case measure => simp [intOf]; omega
    · go_wp2
      go_ret
      have h1 := HM.out
      rw [List.take_of_length_le (by omega)] at h1
      exact ⟨⟨m, rfl, h1⟩, rfl⟩

theorem ownsRow_mono {w : World} {B B' : Nat} {e : TypeId} {size : Nat} {v : Value} {n : Nat} {xs : List Value} (h : w.ownsRow B e size v n xs) (hB : B' ≤ B) : w.ownsRow B' e size v n xs := by
  refine ⟨h.1, ?_⟩
  rcases h.2 with h0 | ⟨g, cap, cur, h1, h2, h3⟩
  · exact .inl h0
  · exact .inr ⟨g, cap, cur, h1, by omega, h3⟩

def LensRel (l : List RT) (B : Nat) (w : World) (v6 v25 : Value) (wr : World) : Prop :=
  ∃ (k : Nat) (A : Option Addr) (c : Nat), k ≤ l.length ∧ v25 = .int .i64 k ∧ v6 = .slice A k c ∧ wr.ownsRow B 3 1 (.slice A k c) k ((lens (l.take k)).map (Value.int .i64)) ∧ Below B w wr

theorem lens_next {l : List RT} {t : RT} {k : Nat} (hx : l[k]? = some t) : (lens (l.take (k + 1))).map (Value.int .i64) = (lens (l.take k)).map (Value.int .i64) ++ #[Value.int .i64 (t.n : Int)].toList := by
  rw [lens_take l k hx]
  simp

set_option maxHeartbeats 2000000 in
set_option maxRecDepth 100000 in
theorem cloudOf_yes (A : Option Addr) (n c : Nat) (l : List RT) (s : Int) (w : World) (hl : l.length = n) (hn : n ≤ 2000) (hs0 : 1 ≤ s) (hs1 : s ≤ 100) (hr : Rd w 3 RT.cells A l) (hok : ∀ t ∈ l, t.ok) :
    Calls Try.prog 27 #[.slice A n c, .int .i64 s] w (CloudPost l s w) := by
  have HR := hide (And.intro hr hok)
  clear hr hok
  have hl1 : l.length ≤ n := by omega
  have hl2 : n ≤ l.length := by omega
  clear hl
  go_enter Try.func27, Try.ntmps27
  go_wp2_with fail
  go_loopw [6, 25] (LensRel l w.heap.size w) (fun _ v25 _ => 4000 - (intOf v25).toNat)
  case atStart => exact ⟨0, none, 0, by omega, rfl, rfl, World.ownsRow_nil _ _ _ _, Below.refl _ _⟩
  case round =>
    obtain ⟨k, A', c', hk, rfl, rfl, hown, hb⟩ := hrel
    by_cases hlt : k < n
    · obtain ⟨b, o, t, rfl, hx, hm, hc⟩ := (HR.out.1.keep hb).at_ (k := k) (by omega)
      have a0 : wr.cell? ⟨b, o + k * 3, none⟩ = some (.string t.name) := hc 0 _ rfl
      have a1 : wr.cell? ⟨b, o + k * 3 + 1, none⟩ = some (.string t.title) := hc 1 _ rfl
      have a2 : wr.cell? ⟨b, o + k * 3 + 2, none⟩ = some (.slice t.A t.n t.c) := hc 2 _ rfl
      have htn : t.n ≤ 100000000000000 := by have := (HR.out.2 t hm).2; have h1 := this.cb; have h2 := this.nc; omega
      have hki : (k : Int) < n := by omega
      have hbs := hb.size
      have HX := hide (And.intro hx hown)
      clear hx hm hc hown
      go_wp2_with (at_builtin; refine app1h intTy _ w (wr.heap.size + 1) (World.size_alloc _ _) rfl _ _ rfl w.heap.size rfl (HX.out.2.alloc _) (hb.alloc hbs _) (by simp; omega) _ rfl rfl rfl (by omega) ?_; intro g c1 w1 hown1 hb1 _ _)
      go_roundw
      case rel => exact ⟨k + 1, _, _, by omega, by go_num, by go_num, by rw [lens_next HX.out.1]; exact hown1, hb1⟩
      case measure => simp [intOf]; omega
    · have hke : k = l.length := by omega
      have hown2 := hown
      rw [hke, List.take_of_length_le (Nat.le_refl _)] at hown2
      have R := Rd.of_own (f := icell) (l := lens l) icell_len (by rw [icells_map]; exact hown2) (by decide)
      have hEx : ∃ lo hi, Ends (lens l) lo hi ∧ (l = [] → n = 0) := by
        rcases Nat.eq_zero_or_pos n with h0 | h0
        · refine ⟨0, 0, .inl ⟨?_, rfl, rfl⟩, fun _ => h0⟩
          have : l = [] := List.eq_nil_of_length_eq_zero (by omega)
          rw [this]; rfl
        · obtain ⟨e1, w1, fr1, ⟨⟨lo, _, h1⟩, _⟩, _⟩ := slicesMin A' l.length c' (lens l) wr (lens_len l) (by omega) (by omega) R.1 []
          obtain ⟨e2, w2, fr2, ⟨⟨hi, _, h2⟩, _⟩, _⟩ := slicesMax A' l.length c' (lens l) wr (lens_len l) (by omega) (by omega) R.1 []
          exact ⟨lo, hi, .inr ⟨h1, h2⟩, fun h => by rw [h] at hl2; simp at hl2; omega⟩
      obtain ⟨lo, hi, hE, _⟩ := hEx
      have HE := hide hE
      have HW := hide (And.intro hb R.1)
      have hlo := ends_lo hE
      have hhi2 : hi ≤ 100000000000000 := ends_hi hE (by omega) fun t hm => by have := (HR.out.2 t hm).2; have h1 := this.cb; have h2 := this.nc; omega
      have HB := hide hlo.2.2.2
      have hlo1 := hlo.1
      have hlo3 := hlo.2.2.1
      have hkn1 : k ≤ l.length := by omega
      have hkn2 : l.length ≤ k := by omega
      have HKE := hide hke
      clear hE hlo hown hown2 R hb hke
      obtain ⟨wo, rfl⟩ : ∃ wo : World, wo = wr := ⟨_, rfl⟩
      go_wp2_with fail
      go_loopw [9, 38] (OutRel l lo hi s wo.heap.size wo) (fun _ v38 _ => 4000 - (intOf v38).toNat)
      case atStart => exact ⟨0, none, 0, by omega, rfl, rfl, World.ownsRow_nil _ _ _ _, Below.refl _ _⟩
      case round =>
        obtain ⟨j, A2, c2, hj, rfl, rfl, hown, hb'⟩ := hrel
        by_cases hlt : j < k
        · obtain ⟨b, o, t, hA, hx, hm, _⟩ := HR.out.1.at_ (k := j) (by omega)
          obtain ⟨b', o', x, rfl, hx', _, hc⟩ := (HW.out.2.keep hb').at_ (k := j) (by rw [lens_len]; omega)
          have hxt : x = (t.n : Int) := by
            have : (lens l)[j]? = some (t.n : Int) := by unfold lens; rw [List.getElem?_map, hx]; rfl
            rw [this] at hx'
            injection hx' with h
            exact h.symm
          subst hxt
          have a0 : wr.cell? ⟨b', o' + j * 1, none⟩ = some (.int .i64 (t.n : Int)) := hc 0 _ rfl
          rw [Nat.mul_one] at a0
          have htn : t.n ≤ 100000000000000 := by have := (HR.out.2 t hm).2; have h1 := this.cb; have h2 := this.nc; omega
          have htl := HB.out t hm
          have hp0 : 0 ≤ ((t.n : Int) - lo) * s := Int.mul_nonneg (by omega) (by omega)
          have hp1 : ((t.n : Int) - lo) * s ≤ 100000000000000 * 100 := Int.mul_le_mul (by omega) (by omega) (by omega) (by omega)
          have hji : (j : Int) < k := by omega
          have hbs' := hb'.size
          have HX := hide (And.intro hx hown)
          clear hA hx hx' hm hc hown
          go_wp2_with fail
          refine (slicesMin _ k c' (lens l) wr (by rw [lens_len]; omega) (by omega) (by omega) (HW.out.2.keep hb')).mono ?_
          rintro e w1 ⟨⟨lo', rfl, h1⟩, rfl⟩
          obtain rfl : lo' = lo := by
            rcases HE.out with ⟨h0, _⟩ | ⟨h0, _⟩
            · rw [h0] at h1; exact absurd h1.1 (by simp)
            · exact isMin_eq h1 h0
          clear h1
          go_wp2_with fail
          refine (slicesMax _ k c' (lens l) wr (by rw [lens_len]; omega) (by omega) (by omega) (HW.out.2.keep hb')).mono ?_
          rintro e w1 ⟨⟨hi', rfl, h1⟩, rfl⟩
          obtain rfl : hi' = hi := by
            rcases HE.out with ⟨h0, _⟩ | ⟨_, h0⟩
            · rw [h0] at h1; exact absurd h1.1 (by simp)
            · exact isMax_eq h1 h0
          clear h1
          have hown := HX.out.2
          go_wp2_with (at_builtin; refine app1 intTy _ wo rfl _ _ rfl wo.heap.size rfl hown hb' hbs' _ rfl rfl rfl (by omega) ?_; intro g c1 w1 hown1 hb1 _ _)
          go_roundw
          case rel => exact ⟨j + 1, _, _, by omega, by go_num, by go_num, by rw [out_next HX.out.1]; exact hown1, hb1⟩
          case measure => simp [intOf]; omega
        · go_wp2
          go_ret2
          have hjl : j = l.length := by omega
          subst hjl
          rw [List.take_of_length_le (Nat.le_refl _)] at hown
          refine ⟨A2, c2, lo, hi, rfl, HE.out, ?_, HW.out.1.trans (hb'.mono HW.out.1.size)⟩
          exact ownsRow_mono hown HW.out.1.size

theorem cloud_large (A : Option Addr) (n c : Nat) (s : Int) (w : World) (hn : 2000 < n) :
    Calls Try.prog 26 #[.slice A n c, .int .i64 s] w fun e w' => e = .returned (.tuple #[.slice none 0 0, .int .i64 4]) ∧ w = w' := by
  have hn' : (2000 : Int) < n := by omega
  go_enter Try.func26, Try.ntmps26
  go_wp2
  go_ret2
  exact ⟨rfl, rfl⟩

theorem cloud_range (A : Option Addr) (n c : Nat) (s : Int) (w : World) (hn : n ≤ 2000) (hs : s < 1 ∨ 100 < s) :
    Calls Try.prog 26 #[.slice A n c, .int .i64 s] w fun e w' => e = .returned (.tuple #[.slice none 0 0, .int .i64 2]) ∧ w = w' := by
  have hn' : ¬ (2000 : Int) < n := by omega
  rcases (by omega : s < 1 ∨ (1 ≤ s ∧ 100 < s)) with h | h
  all_goals
    clear hs
    go_enter Try.func26, Try.ntmps26
    go_wp2
    go_ret2
    exact ⟨rfl, rfl⟩

theorem cloudOf_large (A : Option Addr) (n c : Nat) (s : Int) (w : World) (hn : 2000 < n) :
    Calls Try.prog 27 #[.slice A n c, .int .i64 s] w fun e w' => e = .returned (.tuple #[.slice none 0 0, .int .i64 4]) ∧ w = w' := by
  have hn' : (2000 : Int) < n := by omega
  go_enter Try.func27, Try.ntmps27
  go_wp2
  go_ret2
  exact ⟨rfl, rfl⟩

theorem cloudOf_range (A : Option Addr) (n c : Nat) (s : Int) (w : World) (hn : n ≤ 2000) (hs : s < 1 ∨ 100 < s) :
    Calls Try.prog 27 #[.slice A n c, .int .i64 s] w fun e w' => e = .returned (.tuple #[.slice none 0 0, .int .i64 2]) ∧ w = w' := by
  have hn' : ¬ (2000 : Int) < n := by omega
  rcases (by omega : s < 1 ∨ (1 ≤ s ∧ 100 < s)) with h | h
  all_goals
    clear hs
    go_enter Try.func27, Try.ntmps27
    go_wp2
    go_ret2
    exact ⟨rfl, rfl⟩
end Go.Proofs.Ytbfldfnmamdofaa.clouds
