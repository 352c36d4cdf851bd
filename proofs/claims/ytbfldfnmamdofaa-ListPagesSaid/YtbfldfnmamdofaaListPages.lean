/-
  The parts of a pager: what 'list.Pager' and the reference compute, and that they compute the same.
-/
import Derived.Test.YtbfldfnmamdofaaRows
import Derived.Test.YtbfldfnmamdofaaL0
namespace Go.Proofs.Ytbfldfnmamdofaa
open Go.RowKit

theorem partTy : SlTy Try.prog 22 28 (.agg #[.int .i64 0, .int .i64 0, .int .i64 0]) 3 24 :=
  ⟨Try.underlying22, info_parts (by kernel_rfl), rfl, by decide, by decide⟩

/-- part k of 'many' in size 'size' (k from 0). -/
def pcell (many size : Int) (k : Nat) : List Value := [.int .i64 ((k : Int) + 1), .int .i64 ((k : Int) * size), .int .i64 (if many < (k : Int) * size + size then many else (k : Int) * size + size)]
def pcells (many size : Int) (k : Nat) : List Value := (List.range k).flatMap (pcell many size)

theorem pcells_succ (m s : Int) (k : Nat) : pcells m s (k + 1) = pcells m s k ++ pcell m s k := by
  simp [pcells, List.range_succ, List.flatMap_append]

theorem mul_next (k : Nat) (s : Int) : ((k + 1 : Nat) : Int) * s = k * s + s := by
  rw [Int.natCast_add, Int.add_mul]; simp

theorem mul_ge (k : Nat) (s : Int) (h : 1 ≤ s) : (k : Int) ≤ k * s := by
  have : (k : Int) * 1 ≤ k * s := Int.mul_le_mul_of_nonneg_left h (by omega)
  omega

def PagerRel (m s : Int) (w : World) (v6 v7 : Value) (wr : World) : Prop :=
  ∃ (k : Nat) (f : Int) (A : Option Addr) (c : Nat), v6 = .slice A k c ∧ v7 = .int .i64 f ∧ f = k * s ∧ 0 ≤ f ∧ f ≤ 4000 ∧ (k ≤ 1 ∨ f < m + s) ∧
      wr.ownsRow w.heap.size 28 3 (.slice A k c) k (pcells m s k) ∧ Below w.heap.size w wr

/-- What either pager hands back when it hands back parts. -/
def PagerPost (m s : Int) (w : World) (e : Ending) (w' : World) : Prop :=
  ∃ A c k, e = .returned (.tuple #[.slice A k c, .int .i64 0]) ∧ w'.ownsRow w.heap.size 28 3 (.slice A k c) k (pcells m s k) ∧
      Below w.heap.size w w' ∧ 1 ≤ k ∧ m ≤ k * s ∧ (k = 1 ∨ k * s < m + s) ∧ k ≤ 4000

set_option maxHeartbeats 400000 in
set_option maxRecDepth 100000 in
theorem pager_yes (m s : Int) (w : World) (hm0 : 0 ≤ m) (hm1 : m ≤ 2000) (hs0 : 1 ≤ s) (hs1 : s ≤ 2000) :
    Calls Try.prog 15 #[.int .i64 m, .int .i64 s] w (PagerPost m s w) := by
  have hs0' : (0 : Int) < s := by omega
  go_enter Try.func15, Try.ntmps15
  go_wp2_with fail
  go_loopw [6, 7] (PagerRel m s w) (fun v6 v7 _ => 8000 - (intOf v7).toNat)
  case atStart => exact ⟨0, 0, none, 0, rfl, rfl, by simp, by omega, by omega, by omega, World.ownsRow_nil _ _ _ _, Below.refl _ _⟩
  case round =>
    obtain ⟨k, f, A, c, rfl, rfl, hf, hf0, hf1, hk2, hown, hb⟩ := hrel
    have hkf : (k : Int) ≤ f := by rw [hf]; exact mul_ge k s hs0
    have hn := mul_next k s
    have hpc : pcell m s k = [.int .i64 ((k : Int) + 1), .int .i64 f, .int .i64 (if m < f + s then m else f + s)] := by rw [hf]; rfl
    have hps := pcells_succ m s k
    have HF := hide (And.intro hf (And.intro hn (And.intro hpc hps))); clear hf hn hpc hps
    have hgo : (f < m ∨ m = 0 ∧ f = 0 ∧ k = 0) ∨ (¬ f < m ∧ ¬ (f = 0 ∧ k = 0)) := by omega
    rcases hgo with hgo | hgo
    · have hfk : f ≤ 2000 ∧ k ≤ 2000 := by omega
      rcases hgo with hlt | ⟨rfl, rfl, rfl⟩
      · go_wp2_with (at_builtin; refine app1 partTy wr w rfl _ _ rfl w.heap.size rfl hown hb hb.size _ rfl rfl rfl (by omega) ?_; intro g c' w1 hown' hb' _ _)
        go_roundw
        case rel => 
          obtain ⟨hf, hn, hpc, hps⟩ := HF.out
          exact ⟨k + 1, f + s, _, c', by go_num, rfl, by omega, by omega, by omega, by omega, by rw [hps, hpc]; exact hown', hb'⟩
        case measure => simp [intOf]; omega
      · go_wp2_with (at_builtin; refine app1 partTy wr w rfl _ _ rfl w.heap.size rfl hown hb hb.size _ rfl rfl rfl (by omega) ?_; intro g c' w1 hown' hb' _ _)
        go_roundw
        case rel => 
          obtain ⟨hf, hn, hpc, hps⟩ := HF.out
          exact ⟨1, s, _, c', by go_num, rfl, by simp, by omega, by omega, by omega, by rw [hps, hpc]; simpa [hs0'] using hown', hb'⟩
        case measure => simp [intOf]; omega
    · have hkk : ¬ (k = 0) := by
        intro h0; subst h0; have := HF.out.1; simp at this; omega
      by_cases hz : f = 0
      · exact absurd hz (by omega)
      · go_wp2
        go_ret2
        obtain ⟨hf, hn, hpc, hps⟩ := HF.out
        exact ⟨A, c, k, rfl, hown, hb, by omega, by omega, by omega, by omega⟩

theorem pager_no (m s : Int) (w : World) (h : m < 0 ∨ 2000 < m ∨ s < 1 ∨ 2000 < s) :
    Calls Try.prog 15 #[.int .i64 m, .int .i64 s] w fun e w' => e = .returned (.tuple #[.slice none 0 0, .int .i64 2]) ∧ w = w' := by
  go_enter Try.func15, Try.ntmps15
  go_wp2
  all_goals go_ret2
  all_goals exact ⟨rfl, rfl⟩

def PagerOfRel (m s : Int) (w : World) (v6 v7 : Value) (wr : World) : Prop :=
  ∃ (k : Nat) (f : Int) (A : Option Addr) (c : Nat), v6 = .slice A k c ∧ v7 = .int .i64 f ∧ f = k * s ∧ 1 ≤ k ∧ 0 ≤ f ∧ f ≤ 4000 ∧ (k ≤ 1 ∨ f < m + s) ∧
      wr.ownsRow w.heap.size 28 3 (.slice A k c) k (pcells m s k) ∧ Below w.heap.size w wr

set_option maxHeartbeats 400000 in
set_option maxRecDepth 100000 in
theorem pagerOf_yes (m s : Int) (w : World) (hm0 : 0 ≤ m) (hm1 : m ≤ 2000) (hs0 : 1 ≤ s) (hs1 : s ≤ 2000) :
    Calls Try.prog 16 #[.int .i64 m, .int .i64 s] w (PagerPost m s w) := by
  have hs0' : (0 : Int) < s := by omega
  by_cases hms : m < s
  all_goals
    go_enter Try.func16, Try.ntmps16
    go_wp2_with fail
    go_loopw [6, 7] (PagerOfRel m s w) (fun v6 v7 _ => 8000 - (intOf v7).toNat)
    case atStart =>
      refine ⟨1, s, _, _, rfl, rfl, by simp, by omega, by omega, by omega, by omega, ?_, ?_⟩
      · have hl := World.ownsRow_lit (base := w.heap.size) (e := 28) (size := 3) w #[.int .i64 1, .int .i64 0, .int .i64 (if m < s then m else s)] 1 (Nat.le_refl _) (by decide) rfl
        first
          | (have e : (if m < s then m else s) = m := if_pos (by omega); rw [e] at hl; simpa [pcells, pcell, List.range_succ, e] using hl)
          | (have e : (if m < s then m else s) = s := if_neg (by omega); rw [e] at hl; simpa [pcells, pcell, List.range_succ, e] using hl)
      · exact (Below.refl _ _).alloc (Nat.le_refl _) _
    case round =>
      obtain ⟨k, f, A, c, rfl, rfl, hf, hk1, hf0, hf1, hk2, hown, hb⟩ := hrel
      have hkf : (k : Int) ≤ f := by rw [hf]; exact mul_ge k s hs0
      have hn := mul_next k s
      have hpc : pcell m s k = [.int .i64 ((k : Int) + 1), .int .i64 f, .int .i64 (if m < f + s then m else f + s)] := by rw [hf]; rfl
      have hps := pcells_succ m s k
      have HF := hide (And.intro hf (And.intro hn (And.intro hpc hps))); clear hf hn hpc hps
      by_cases hlt : f < m
      · have hfk : f ≤ 2000 ∧ k ≤ 2000 := by omega
        go_wp2_with (at_builtin; refine app1 partTy wr w rfl _ _ rfl w.heap.size rfl hown hb hb.size _ rfl rfl rfl (by omega) ?_; intro g c' w1 hown' hb' _ _)
        go_roundw
        case rel => 
          obtain ⟨hf, hn, hpc, hps⟩ := HF.out
          exact ⟨k + 1, f + s, _, c', by go_num, rfl, by omega, by omega, by omega, by omega, by omega, by rw [hps, hpc]; first | exact hown' | (rw [if_pos (by omega)]; exact hown') | (rw [if_neg (by omega)]; exact hown'), hb'⟩
        case measure => simp [intOf]; omega
      · go_wp2
        go_ret2
        obtain ⟨hf, hn, hpc, hps⟩ := HF.out
        exact ⟨A, c, k, rfl, hown, hb, by omega, by omega, by omega, by omega⟩

theorem pagerOf_no (m s : Int) (w : World) (h : m < 0 ∨ 2000 < m ∨ s < 1 ∨ 2000 < s) :
    Calls Try.prog 16 #[.int .i64 m, .int .i64 s] w fun e w' => e = .returned (.tuple #[.slice none 0 0, .int .i64 2]) ∧ w = w' := by
  go_enter Try.func16, Try.ntmps16
  go_wp2
  all_goals go_ret2
  all_goals exact ⟨rfl, rfl⟩

end Go.Proofs.Ytbfldfnmamdofaa
