/-
  list.Window, and the same loop in its law.
-/
import Derived.Test.YtbfldfnmamdofaaEqInts
namespace Go.Proofs.Ytbfldfnmamdofaa.listWindows
open Go.RowKit

/-- One round at number n: what has been gathered, and the last number. -/
def wstep (p m r : Int) (st : List Int × Int) (n : Int) : List Int × Int :=
  if n ≠ 1 ∧ n ≠ p ∧ (n < m - r ∨ m + r < n) then st else ((if st.2 + 1 < n then st.1 ++ [0] else st.1) ++ [n], n)

/-- Behind the numbers from 1 to k. -/
def wst (p m r : Int) : Nat → List Int × Int
  | 0 => ([], 0)
  | k + 1 => wstep p m r (wst p m r k) ((k : Int) + 1)

theorem wst_len (p m r : Int) : ∀ k, (wst p m r k).1.length ≤ 2 * k ∧ 0 ≤ (wst p m r k).2 ∧ (wst p m r k).2 ≤ k
  | 0 => by simp [wst]
  | k + 1 => by
    have ih := wst_len p m r k
    simp only [wst, wstep]
    split
    · omega
    · split <;> simp <;> omega

def WinRel (p m r : Int) (w : World) (v8 v9 v10 : Value) (wr : World) : Prop :=
  ∃ (k : Nat) (A : Option Addr) (c : Nat) (l : List Int) (last : Int) (n : Nat), v8 = .slice A n c ∧ v9 = .int .i64 last ∧ v10 = .int .i64 ((k : Int) + 1) ∧ (k : Int) ≤ p ∧ wst p m r k = (l, last) ∧
    n ≤ 2 * k ∧ 0 ≤ last ∧ last ≤ k ∧ wr.ownsRow w.heap.size 3 1 (.slice A n c) n (l.map (Value.int .i64)) ∧ Below w.heap.size w wr

def WinPost (p m r : Int) (w : World) (e : Ending) (w' : World) : Prop :=
  ∃ A c n l, e = .returned (.tuple #[.slice A n c, .int .i64 0]) ∧ w'.ownsRow w.heap.size 3 1 (.slice A n c) n (l.map (Value.int .i64)) ∧ l = (wst p m r p.toNat).1 ∧ n ≤ 4000 ∧ Below w.heap.size w w'

theorem rel_zero (p m r : Int) (w : World) (hp : 0 ≤ p) : WinRel p m r w (.slice none 0 0) (.int .i64 0) (.int .i64 1) w :=
  ⟨0, none, 0, [], 0, 0, rfl, rfl, rfl, by omega, rfl, by omega, by omega, by omega, World.ownsRow_nil _ _ _ _, Below.refl _ _⟩

/-- The numbers at which a window leaves one out. -/
def Skips (p m r : Int) (k : Nat) : Prop := (k : Int) + 1 ≠ 1 ∧ (k : Int) + 1 ≠ p ∧ ((k : Int) + 1 < m - r ∨ m + r < (k : Int) + 1)

theorem wst_skip {p m r : Int} {k : Nat} {l : List Int} {last : Int} (hst : wst p m r k = (l, last)) (hs : Skips p m r k) : wst p m r (k + 1) = (l, last) := by
  simp only [wst, wstep, hst]; exact if_pos hs
theorem wst_near {p m r : Int} {k : Nat} {l : List Int} {last : Int} (hst : wst p m r k = (l, last)) (hs : ¬ Skips p m r k) (hg : ¬ last + 1 < (k : Int) + 1) : wst p m r (k + 1) = (l ++ [(k : Int) + 1], (k : Int) + 1) := by
  simp only [wst, wstep, hst]; rw [if_neg hg]; exact if_neg hs
theorem wst_far {p m r : Int} {k : Nat} {l : List Int} {last : Int} (hst : wst p m r k = (l, last)) (hs : ¬ Skips p m r k) (hg : last + 1 < (k : Int) + 1) : wst p m r (k + 1) = (l ++ [0] ++ [(k : Int) + 1], (k : Int) + 1) := by
  simp only [wst, wstep, hst]; rw [if_pos hg]; exact if_neg hs

theorem rel_skip {p m r : Int} {w wr : World} {k n c : Nat} {A : Option Addr} {l : List Int} {last y : Int} (hk : (k : Int) + 1 ≤ p) (hst : wst p m r k = (l, last)) (hs : Skips p m r k) (hnk : n ≤ 2 * k) (hl0 : 0 ≤ last) (hl1 : last ≤ k)
    (hown : wr.ownsRow w.heap.size 3 1 (.slice A n c) n (l.map (Value.int .i64))) (hb : Below w.heap.size w wr) (hy : y = (k : Int) + 1 + 1) : WinRel p m r w (.slice A n c) (.int .i64 last) (.int .i64 y) wr :=
  ⟨k + 1, A, c, l, last, n, rfl, rfl, by rw [hy]; go_num, by omega, wst_skip hst hs, by omega, by omega, by omega, hown, hb⟩

theorem rel_near {p m r : Int} {w wr : World} {k n c : Nat} {A : Option Addr} {l : List Int} {last x y : Int} (hk : (k : Int) + 1 ≤ p) (hst : wst p m r k = (l, last)) (hs : ¬ Skips p m r k) (hg : ¬ last + 1 < (k : Int) + 1) (hnk : n ≤ 2 * k)
    (hown : wr.ownsRow w.heap.size 3 1 (.slice A (n + 1) c) (n + 1) (l.map (Value.int .i64) ++ #[Value.int .i64 x].toList)) (hb : Below w.heap.size w wr) (hx : x = (k : Int) + 1) (hy : y = (k : Int) + 1 + 1) :
    WinRel p m r w (.slice A (n + 1) c) (.int .i64 x) (.int .i64 y) wr := by
  subst hx
  exact ⟨k + 1, A, c, l ++ [(k : Int) + 1], (k : Int) + 1, n + 1, rfl, rfl, by rw [hy]; go_num, by omega, wst_near hst hs hg, by omega, by omega, by omega, by simpa using hown, hb⟩

theorem rel_far {p m r : Int} {w wr : World} {k n c : Nat} {A : Option Addr} {l : List Int} {last x y : Int} (hk : (k : Int) + 1 ≤ p) (hst : wst p m r k = (l, last)) (hs : ¬ Skips p m r k) (hg : last + 1 < (k : Int) + 1) (hnk : n ≤ 2 * k)
    (hown : wr.ownsRow w.heap.size 3 1 (.slice A (n + 1 + 1) c) (n + 1 + 1) (l.map (Value.int .i64) ++ #[Value.int .i64 0].toList ++ #[Value.int .i64 x].toList)) (hb : Below w.heap.size w wr) (hx : x = (k : Int) + 1) (hy : y = (k : Int) + 1 + 1) :
    WinRel p m r w (.slice A (n + 1 + 1) c) (.int .i64 x) (.int .i64 y) wr := by
  subst hx
  exact ⟨k + 1, A, c, l ++ [0] ++ [(k : Int) + 1], (k : Int) + 1, n + 1 + 1, rfl, rfl, by rw [hy]; go_num, by omega, wst_far hst hs hg, by omega, by omega, by omega, by simpa using hown, hb⟩

theorem rel_end {p m r : Int} {w wr : World} {k n c : Nat} {A : Option Addr} {l : List Int} {last : Int} (hp1 : p ≤ 2000) (hk : ¬ (k : Int) + 1 ≤ p) (hkp : (k : Int) ≤ p) (hst : wst p m r k = (l, last)) (hnk : n ≤ 2 * k)
    (hown : wr.ownsRow w.heap.size 3 1 (.slice A n c) n (l.map (Value.int .i64))) (hb : Below w.heap.size w wr) : WinPost p m r w (.returned (.tuple #[.slice A n c, .int .i64 0])) wr :=
  ⟨A, c, n, l, rfl, hown, by rw [show p.toNat = k from by omega, hst], by omega, hb⟩

set_option maxHeartbeats 1000000 in
set_option maxRecDepth 100000 in
theorem window_yes (p m r : Int) (w : World) (hp0 : 1 ≤ p) (hp1 : p ≤ 2000) (hm0 : 1 ≤ m) (hm1 : m ≤ p) (hr0 : 0 ≤ r) (hr1 : r ≤ 2000) :
    Calls Try.prog 18 #[.int .i64 p, .int .i64 m, .int .i64 r] w (WinPost p m r w) := by
  go_enter Try.func18, Try.ntmps18
  go_wp2_with fail
  go_loopw [8, 9, 10] (WinRel p m r w) (fun _ _ v10 _ => 8000 - (intOf v10).toNat)
  case atStart => exact rel_zero p m r w (by omega)
  case round =>
    obtain ⟨k, A, c, l, last, n, rfl, rfl, rfl, hkp, hst, hnk, hl0, hl1, hown, hb⟩ := hrel
    have HS := hide hst; clear hst
    by_cases hend : (k : Int) + 1 ≤ p
    · by_cases h1 : k = 0
      · subst h1
        have hg : ¬ last + 1 < ((0 : Nat) : Int) + 1 := by omega
        go_wp2_with (at_builtin; refine app1 intTy _ w rfl _ _ rfl w.heap.size rfl (by assumption) (by assumption) (Below.size (by assumption)) _ rfl rfl rfl (by omega) ?_; intro g c' w1 hown1 hb1 _ _)
        exact ⟨rel_near (by omega) HS.out (by unfold Skips; simp) hg hnk hown1 hb1 (by simp) (by simp), by simp [intOf]⟩
      · have e1 : ((k : Int) + 1 != 1) = true := by rw [bne_iff_ne]; omega
        have hk1 : 1 ≤ (k : Int) := by omega
        clear h1
        by_cases h2 : p ≤ (k : Int) + 1
        · have e2 : ((k : Int) + 1 != p) = false := by rw [bne_eq_false_iff_eq]; omega
          by_cases hg : last + 1 < (k : Int) + 1
          · go_wp2_with (at_builtin; refine app1 intTy _ w rfl _ _ rfl w.heap.size rfl (by assumption) (by assumption) (Below.size (by assumption)) _ rfl rfl rfl (by omega) ?_; intro g c' w1 hown1 hb1 _ _)
            exact ⟨rel_far hend HS.out (by unfold Skips; omega) hg hnk hown1 hb1 (by omega) (by omega), by simp [intOf]; omega⟩
          · go_wp2_with (at_builtin; refine app1 intTy _ w rfl _ _ rfl w.heap.size rfl (by assumption) (by assumption) (Below.size (by assumption)) _ rfl rfl rfl (by omega) ?_; intro g c' w1 hown1 hb1 _ _)
            exact ⟨rel_near hend HS.out (by unfold Skips; omega) hg hnk hown1 hb1 (by omega) (by omega), by simp [intOf]; omega⟩
        · have e2 : ((k : Int) + 1 != p) = true := by rw [bne_iff_ne]; omega
          by_cases h3 : (k : Int) + 1 < m - r
          · go_wp2
            exact ⟨rel_skip hend HS.out (by unfold Skips; omega) hnk hl0 hl1 hown hb (by omega), by simp [intOf]; omega⟩
          · by_cases h4 : m + r < (k : Int) + 1
            · go_wp2
              exact ⟨rel_skip hend HS.out (by unfold Skips; omega) hnk hl0 hl1 hown hb (by omega), by simp [intOf]; omega⟩
            · by_cases hg : last + 1 < (k : Int) + 1
              · go_wp2_with (at_builtin; refine app1 intTy _ w rfl _ _ rfl w.heap.size rfl (by assumption) (by assumption) (Below.size (by assumption)) _ rfl rfl rfl (by omega) ?_; intro g c' w1 hown1 hb1 _ _)
                exact ⟨rel_far hend HS.out (by unfold Skips; omega) hg hnk hown1 hb1 (by omega) (by omega), by simp [intOf]; omega⟩
              · go_wp2_with (at_builtin; refine app1 intTy _ w rfl _ _ rfl w.heap.size rfl (by assumption) (by assumption) (Below.size (by assumption)) _ rfl rfl rfl (by omega) ?_; intro g c' w1 hown1 hb1 _ _)
                exact ⟨rel_near hend HS.out (by unfold Skips; omega) hg hnk hown1 hb1 (by omega) (by omega), by simp [intOf]; omega⟩
    · go_wp2
      go_ret2
      exact rel_end hp1 (by omega) hkp HS.out hnk hown hb

/-- The arguments at which a window is refused. -/
def Bad (p m r : Int) : Prop := p < 1 ∨ 2000 < p ∨ m < 1 ∨ p < m ∨ r < 0 ∨ 2000 < r

theorem window_no (p m r : Int) (w : World) (h : Bad p m r) :
    Calls Try.prog 18 #[.int .i64 p, .int .i64 m, .int .i64 r] w fun e w' => e = .returned (.tuple #[.slice none 0 0, .int .i64 2]) ∧ w = w' := by
  unfold Bad at h
  go_enter Try.func18, Try.ntmps18
  go_wp2
  all_goals go_ret2
  all_goals exact ⟨rfl, rfl⟩
end Go.Proofs.Ytbfldfnmamdofaa.listWindows
