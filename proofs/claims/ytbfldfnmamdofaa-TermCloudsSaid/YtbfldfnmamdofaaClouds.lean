/-
  list.Cloud and the reference's: what they compute.
-/
import Derived.Test.YtbfldfnmamdofaaEqInts
import Derived.Test.YtbfldfnmamdofaaL3
namespace Go.Proofs.Ytbfldfnmamdofaa.clouds
open Go.RowKit
set_option linter.unusedVariables false

/-- A term as it lies in memory. -/
structure RT where
  name : ByteArray
  title : ByteArray
  A : Option Addr
  n : Nat
  c : Nat
  items : List Int

def RT.cells (t : RT) : List Value := [.string t.name, .string t.title, .slice t.A t.n t.c]
def RT.ok (t : RT) : Prop := t.items.length = t.n ∧ SlOk t.A t.n t.c 8

def lens (l : List RT) : List Int := l.map fun t => (t.n : Int)

def IsMin (L : List Int) (m : Int) : Prop := m ∈ L ∧ ∀ x ∈ L, m ≤ x
def IsMax (L : List Int) (m : Int) : Prop := m ∈ L ∧ ∀ x ∈ L, x ≤ m
theorem isMin_eq {L : List Int} {a b : Int} (h : IsMin L a) (h' : IsMin L b) : a = b := by
  have h1 := h.2 b h'.1
  have h2 := h'.2 a h.1
  omega
theorem isMax_eq {L : List Int} {a b : Int} (h : IsMax L a) (h' : IsMax L b) : a = b := by
  have h1 := h.2 b h'.1
  have h2 := h'.2 a h.1
  omega
theorem isMin_snoc {L : List Int} {m x : Int} (h : IsMin L m) : IsMin (L ++ [x]) (if x < m then x else m) := by
  constructor
  · split
    · simp
    · exact List.mem_append_left _ h.1
  · intro y hy
    rcases List.mem_append.1 hy with hy | hy
    · have := h.2 y hy
      split <;> omega
    · simp at hy
      subst hy
      split <;> omega
theorem isMax_snoc {L : List Int} {m x : Int} (h : IsMax L m) : IsMax (L ++ [x]) (if m < x then x else m) := by
  constructor
  · split
    · simp
    · exact List.mem_append_left _ h.1
  · intro y hy
    rcases List.mem_append.1 hy with hy | hy
    · have := h.2 y hy
      split <;> omega
    · simp at hy
      subst hy
      split <;> omega
theorem isMin_one (x : Int) : IsMin [x] x := ⟨by simp, fun y hy => by simp at hy; omega⟩
theorem isMax_one (x : Int) : IsMax [x] x := ⟨by simp, fun y hy => by simp at hy; omega⟩

theorem lens_take (l : List RT) (k : Nat) {t : RT} (h : l[k]? = some t) : lens (l.take (k + 1)) = lens (l.take k) ++ [(t.n : Int)] := by
  rw [List.take_add_one, h]
  simp [lens]
theorem lens_len (l : List RT) : (lens l).length = l.length := by simp [lens]

def val (lo hi s x : Int) : Int := (x - lo) * s / (hi - lo + 1)

/-- Least and greatest so far. -/
def Ends (L : List Int) (lo hi : Int) : Prop := (L = [] ∧ lo = 0 ∧ hi = 0) ∨ (IsMin L lo ∧ IsMax L hi)

def EndsRel (l : List RT) (w : World) (v6 v7 v25 : Value) (wr : World) : Prop :=
  ∃ (k : Nat) (lo hi : Int), k ≤ l.length ∧ v25 = .int .i64 k ∧ v6 = .int .i64 lo ∧ v7 = .int .i64 hi ∧ Ends (lens (l.take k)) lo hi ∧ 0 ≤ hi ∧ Below w.heap.size w wr

theorem ends_first {l : List RT} {t : RT} {lo hi : Int} (hx : l[0]? = some t) (he : Ends (lens (l.take 0)) lo hi) : Ends (lens (l.take (0 + 1))) (t.n : Int) (if hi < (t.n : Int) then (t.n : Int) else hi) := by
  rcases he with ⟨_, _, h3⟩ | ⟨h1, _⟩
  · rw [lens_take l 0 hx, h3]
    have e : (if (0 : Int) < (t.n : Int) then (t.n : Int) else 0) = (t.n : Int) := by split <;> omega
    rw [e]
    exact .inr ⟨isMin_one _, isMax_one _⟩
  · simp [lens, IsMin] at h1

theorem ends_next {l : List RT} {t : RT} {lo hi : Int} {k : Nat} (hk : ¬ k = 0) (hkl : k < l.length) (hx : l[k]? = some t) (he : Ends (lens (l.take k)) lo hi) :
    Ends (lens (l.take (k + 1))) (if (t.n : Int) < lo then (t.n : Int) else lo) (if hi < (t.n : Int) then (t.n : Int) else hi) := by
  rcases he with ⟨h0, _, h3⟩ | ⟨h1, h2⟩
  · have := congrArg List.length h0
    rw [lens_len, List.length_take, List.length_nil] at this
    omega
  · rw [lens_take l k hx]
    exact .inr ⟨isMin_snoc h1, isMax_snoc h2⟩

theorem ends_lo {l : List RT} {lo hi : Int} (h : Ends (lens l) lo hi) : 0 ≤ lo ∧ 0 ≤ hi ∧ lo ≤ hi ∧ ∀ t ∈ l, lo ≤ (t.n : Int) ∧ (t.n : Int) ≤ hi := by
  rcases h with ⟨h0, rfl, rfl⟩ | ⟨h1, h2⟩
  · refine ⟨by omega, by omega, by omega, fun t ht => ?_⟩
    have : (t.n : Int) ∈ lens l := List.mem_map.2 ⟨t, ht, rfl⟩
    rw [h0] at this
    simp at this
  · obtain ⟨t, _, e⟩ := List.mem_map.1 h1.1
    obtain ⟨t', _, e'⟩ := List.mem_map.1 h2.1
    refine ⟨by omega, by omega, h1.2 _ h2.1, fun t ht => ⟨h1.2 _ (List.mem_map.2 ⟨t, ht, rfl⟩), h2.2 _ (List.mem_map.2 ⟨t, ht, rfl⟩)⟩⟩

theorem ends_hi {l : List RT} {lo hi M : Int} (h : Ends (lens l) lo hi) (hM : 0 ≤ M) (hb : ∀ t ∈ l, (t.n : Int) ≤ M) : hi ≤ M := by
  rcases h with ⟨_, _, rfl⟩ | ⟨_, h2⟩
  · exact hM
  · obtain ⟨t', ht, e'⟩ := List.mem_map.1 h2.1
    have := hb t' ht
    omega

def OutRel (l : List RT) (lo hi s : Int) (B : Nat) (w : World) (v11 v47 : Value) (wr : World) : Prop :=
  ∃ (k : Nat) (A : Option Addr) (c : Nat), k ≤ l.length ∧ v47 = .int .i64 k ∧ v11 = .slice A k c ∧ wr.ownsRow B 3 1 (.slice A k c) k (((lens (l.take k)).map (val lo hi s)).map (Value.int .i64)) ∧ Below B w wr

def CloudPost (l : List RT) (s : Int) (w : World) (e : Ending) (w' : World) : Prop :=
  ∃ A c lo hi, e = .returned (.tuple #[.slice A l.length c, .int .i64 0]) ∧ Ends (lens l) lo hi ∧ w'.ownsRow w.heap.size 3 1 (.slice A l.length c) l.length (((lens l).map (val lo hi s)).map (Value.int .i64)) ∧ Below w.heap.size w w'

theorem out_next {l : List RT} {t : RT} {lo hi s : Int} {k : Nat} (hx : l[k]? = some t) :
    ((lens (l.take (k + 1))).map (val lo hi s)).map (Value.int .i64) = ((lens (l.take k)).map (val lo hi s)).map (Value.int .i64) ++ #[Value.int .i64 (((t.n : Int) - lo) * s / (hi - lo + 1))].toList := by
  rw [lens_take l k hx]
  simp [val]

set_option maxHeartbeats 2000000 in
set_option maxRecDepth 100000 in
theorem cloud_yes (A : Option Addr) (n c : Nat) (l : List RT) (s : Int) (w : World) (hl : l.length = n) (hn : n ≤ 2000) (hs0 : 1 ≤ s) (hs1 : s ≤ 100) (hr : Rd w 3 RT.cells A l) (hok : ∀ t ∈ l, t.ok) :
    Calls Try.prog 26 #[.slice A n c, .int .i64 s] w (CloudPost l s w) := by
  have HR := hide (And.intro hr hok)
  clear hr hok
  have HL := hide hl
  have hl1 : l.length ≤ n := by omega
  have hl2 : n ≤ l.length := by omega
  clear hl
  go_enter Try.func26, Try.ntmps26
  go_wp2_with fail
  go_loopw [6, 7, 25] (EndsRel l w) (fun _ _ v25 _ => 4000 - (intOf v25).toNat)
  case atStart => exact ⟨0, 0, 0, by omega, rfl, rfl, rfl, .inl ⟨rfl, rfl, rfl⟩, by omega, Below.refl _ _⟩
  case round =>
    obtain ⟨k, lo, hi, hk, rfl, rfl, rfl, he, hhi, hb⟩ := hrel
    by_cases hlt : k < n
    · obtain ⟨b, o, t, rfl, hx, hm, hc⟩ := (HR.out.1.keep hb).at_ (k := k) (by omega)
      have a0 : wr.cell? ⟨b, o + k * 3, none⟩ = some (.string t.name) := hc 0 _ rfl
      have a1 : wr.cell? ⟨b, o + k * 3 + 1, none⟩ = some (.string t.title) := hc 1 _ rfl
      have a2 : wr.cell? ⟨b, o + k * 3 + 2, none⟩ = some (.slice t.A t.n t.c) := hc 2 _ rfl
      have htn : t.n ≤ 100000000000000 := by have := (HR.out.2 t hm).2; have h1 := this.cb; have h2 := this.nc; omega
      have hki : (k : Int) < n := by omega
      have hbs := hb.size
      have HX := hide (And.intro hx he)
      clear hx hm hc he
      by_cases hk0 : k = 0
      · have e0 : ((k : Int) == 0) = true := by rw [beq_iff_eq]; omega
        have HK := hide hk0
        clear hk0
        go_wp2_with fail
        go_roundw
        case rel =>
          refine ⟨k + 1, _, _, by omega, by go_num, rfl, rfl, ?_, by split <;> omega, hb.alloc hbs _⟩
          obtain ⟨hx, he⟩ := HX.out
          have := HK.out
          subst this
          exact ends_first hx he
        case measure => simp [intOf]; omega
      · have e0 : ((k : Int) == 0) = false := by rw [beq_eq_false_iff_ne]; omega
        have HK := hide hk0
        clear hk0
        by_cases hlo : (t.n : Int) < lo
        · go_wp2_with fail
          go_roundw
          case rel =>
            refine ⟨k + 1, _, _, by omega, by go_num, rfl, rfl, ?_, by split <;> omega, hb.alloc hbs _⟩
            have := ends_next HK.out (by omega) HX.out.1 HX.out.2
            rwa [if_pos hlo] at this
          case measure => simp [intOf]; omega
        · go_wp2_with fail
          go_roundw
          case rel =>
            refine ⟨k + 1, _, _, by omega, by go_num, rfl, rfl, ?_, by split <;> omega, hb.alloc hbs _⟩
            have := ends_next HK.out (by omega) HX.out.1 HX.out.2
            rwa [if_neg hlo] at this
          case measure => simp [intOf]; omega
    · have hke : k = n := by omega
      have HE : Hid (Ends (lens l) lo hi) := by
        have := he
        rw [List.take_of_length_le (by omega)] at this
        exact this
      have hlo := ends_lo HE.out
      have HB := hide hlo.2.2.2
      have hlo1 := hlo.1
      have hlo3 := hlo.2.2.1
      have hbs := hb.size
      clear he hke hlo
      go_wp2_with fail
      go_loopw [11, 47] (OutRel l lo hi s w.heap.size w) (fun _ v47 _ => 4000 - (intOf v47).toNat)
      case atStart => exact ⟨0, none, 0, by omega, rfl, rfl, World.ownsRow_nil _ _ _ _, hb⟩
      case round =>
        obtain ⟨k, A', c', hk, rfl, rfl, hown, hb'⟩ := hrel
        by_cases hlt : k < n
        · obtain ⟨b, o, t, rfl, hx, hm, hc⟩ := (HR.out.1.keep hb').at_ (k := k) (by omega)
          have a0 : wr.cell? ⟨b, o + k * 3, none⟩ = some (.string t.name) := hc 0 _ rfl
          have a1 : wr.cell? ⟨b, o + k * 3 + 1, none⟩ = some (.string t.title) := hc 1 _ rfl
          have a2 : wr.cell? ⟨b, o + k * 3 + 2, none⟩ = some (.slice t.A t.n t.c) := hc 2 _ rfl
          have htn : t.n ≤ 100000000000000 := by have := (HR.out.2 t hm).2; have h1 := this.cb; have h2 := this.nc; omega
          have htl := HB.out t hm
          have hp0 : 0 ≤ ((t.n : Int) - lo) * s := Int.mul_nonneg (by omega) (by omega)
          have hp1 : ((t.n : Int) - lo) * s ≤ 100000000000000 * 100 := Int.mul_le_mul (by omega) (by omega) (by omega) (by omega)
          have hhi2 : hi ≤ 100000000000000 := ends_hi HE.out (by omega) fun t hm => by have := (HR.out.2 t hm).2; have h1 := this.cb; have h2 := this.nc; omega
          have hki : (k : Int) < n := by omega
          have hbs' := hb'.size
          have hbs2 : w.heap.size ≤ wr.heap.size + 1 := by omega
          have HX := hide (And.intro hx hown)
          clear hx hm hc hown
          go_wp2_with (at_builtin; refine app1h intTy _ w (wr.heap.size + 1) (World.size_alloc _ _) rfl _ _ rfl w.heap.size rfl (HX.out.2.alloc _) (hb'.alloc hbs' _) (by simp; omega) _ rfl rfl rfl (by omega) ?_; intro g c1 w1 hown1 hb1 _ _)
          go_roundw
          case rel => exact ⟨k + 1, _, _, by omega, by go_num, by go_num, by rw [out_next HX.out.1]; exact hown1, hb1⟩
          case measure => simp [intOf]; omega
        · go_wp2
          go_ret2
          have hke : k = l.length := by omega
          subst hke
          rw [List.take_of_length_le (Nat.le_refl _)] at hown
          exact ⟨A', c', lo, hi, rfl, HE.out, hown, hb'⟩
end Go.Proofs.Ytbfldfnmamdofaa.clouds
