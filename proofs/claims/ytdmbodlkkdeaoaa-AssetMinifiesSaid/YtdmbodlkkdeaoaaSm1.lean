/-
  asset.singles as an iterator: of neighbouring Blanks the first one. (After the worked examples of a range over a function.) asset.singles: what it yields; asset.smaller.
-/
import Derived.RangeFuncNested
import Derived.RangeFuncLeaves
import Derived.Shelf.Abstract
import Derived.WalkKit
import Derived.OwnWalkIn
import Derived.TacticsInMore
import Derived.LoopNIn
import Derived.LoopIn
import Derived.Test.YtdmbodlkkdeaoaaSh0
import Derived.Test.YtdmbodlkkdeaoaaShelf
namespace Go.Proofs.Ytdmbodlkkdeaoaa.sm
open Go.RowKit Go.Shelf
open sh bl
set_option linter.unusedVariables false
set_option linter.unusedSimpArgs false
attribute [local go_sem] Oper.semAt_some
/-- What lies below B is kept, and the block k. -/
def KpB (B k : Nat) (X Y : World) : Prop := Below B X Y ∧ (k < X.heap.size → Y.heap[k]? = X.heap[k]?)
theorem KpB.refl (B k : Nat) (X : World) : KpB B k X X := ⟨Below.refl _ _, fun _ => rfl⟩
theorem KpB.trans {B k : Nat} {X Y Z : World} (h : KpB B k X Y) (g : KpB B k Y Z) : KpB B k X Z := ⟨h.1.trans g.1, fun hk => (g.2 (Nat.lt_of_lt_of_le hk h.1.size)).trans (h.2 hk)⟩
theorem KpB.alloc {B k : Nat} (X : World) (hB : B ≤ X.heap.size) (o : Obj) : KpB B k X (X.alloc o) := ⟨(Below.refl _ X).alloc hB _, fun hk => Below.heap_alloc _ _ _ hk⟩
theorem KpB.cell {B k o : Nat} {X Y : World} (h : KpB B k X Y) (hk : k < X.heap.size) : Y.cell? ⟨k, o, none⟩ = X.cell? ⟨k, o, none⟩ := World.cell?_of_block (h.2 hk)
def encT (x : Tok) : Value := .agg #[.int .i64 x.1, .string x.2]
set_option maxRecDepth 100000 in
set_option maxHeartbeats 4000000 in
theorem singles1_in (F : Fence) (n : Nat) (h7 : F.fn 91) (hro : F.round = none) (hn : 1 ≤ n) (l Bs Bo n₀ b off len cap : Nat) (zs : List Tok) (Kf : Nat → Int) (Tf : Nat → ByteArray) (hzs : ∀ j, zs.getD j zt = (Kf j, Tf j)) (hreach : len * 24 ≤ 140737488355328) (hb : b < n₀) (J Jx : List Tok → World → Prop)
    (W : World) (hB : Bs < W.heap.size) (hn0 : n₀ ≤ W.heap.size) (hJ : AbidesFrom W.heap.size J)
    (hY : ∀ pre x W1, J pre W1 → pre.length < len → YieldAt F (n - 1) Try.prog l #[encT x] W1 fun e W' =>
      (e = .returned (.bool true) ∧ J (pre ++ [x]) W' ∧ KpB n₀ Bs W1 W') ∨ (e = .returned (.bool false) ∧ Jx (pre ++ [x]) W'))
    (hBs : W.cell? ⟨Bs, Bo, none⟩ = some (.slice (some ⟨b, off, none⟩) len cap)) (hc : ∀ j, j < len → W.cell? ⟨b, off + j * 2, none⟩ = some (.int .i64 (Kf j)) ∧ W.cell? ⟨b, off + j * 2 + 1, none⟩ = some (.string (Tf j))) (h0 : J [] W) :
    CallsIn F n Try.prog 91 #[.func (.yield l) #[] #[], .pointer (some ⟨Bs, Bo, none⟩)] W fun e W' => (∃ v, e = .returned v) ∧
      ((∃ ys, ys = onceP zs len ∧ J ys W') ∨ (∃ pre, (∃ k, k ≤ len ∧ pre = onceP zs k) ∧ Jx pre W')) := by
  refine callsIn_of_wp Try.func91 rfl h7 ?_ hro
  simp only [Try.ntmps91, List.size_toArray, List.length_cons, List.length_nil, Nat.reduceAdd, Nat.reduceSub, Array.replicate_succ, Array.replicate_zero, List.push_toArray, List.append_toArray, List.nil_append, List.cons_append]
  gi_wp2
  gi_loopw [7] (fun i wr => ∃ k : Nat, k ≤ len ∧ i = .int .i64 k ∧ J (onceP zs k) wr ∧ KpB n₀ Bs W wr)
    (fun i _ => len - (intOf i).toNat)
  case atStart => exact ⟨0, Nat.zero_le _, rfl, h0, KpB.refl _ _ _⟩
  case round =>
    obtain ⟨k, hk, rfl, hJs, hnx⟩ := hrel
    by_cases hlt : k < len
    · obtain ⟨c0, c1⟩ := hc k hlt
      have a0 := (hnx.1.cell (p := ⟨b, off + k * 2, none⟩) hb).trans c0
      have a1 := (hnx.1.cell (p := ⟨b, off + k * 2 + 1, none⟩) hb).trans c1
      have hki : (k : Int) < len := by omega
      have hsz : n₀ ≤ wr.heap.size := Nat.le_trans hn0 hnx.1.size
      have hJ2 := hJ _ _ _ none hJs (World.grownBy_alloc wr (.cells #[.int .i64 (Kf k), .string (Tf k)] 39) none) (fun r e => by cases e)
      have hb2 : KpB n₀ Bs W (wr.alloc (.cells #[.int .i64 (Kf k), .string (Tf k)] 39)) := hnx.trans (KpB.alloc wr hsz _)
      have hBs2 := (hb2.cell (o := Bo) hB).trans hBs
      have hol := onceP_len zs k
      have hkeep : keepT zs k = !(decide (Kf k = 4) && (decide (0 < k) && decide (Kf (k - 1) = 4))) := by unfold keepT; rw [hzs, hzs]
      have yes : keepT zs k = true → onceP zs (k + 1) = onceP zs k ++ [(Kf k, Tf k)] := fun h => by rw [onceP_yes h, hzs]
      clear c0 c1 hBs
      generalize Kf k = kd at a0 a1 hJ2 hb2 hBs2 hkeep yes
      generalize Tf k = td at a0 a1 hJ2 hb2 hBs2 yes
      by_cases h4 : kd = 4
      · subst h4
        rcases Nat.eq_zero_or_pos k with hk0 | hk0
        · have e1 := yes (by rw [hkeep, hk0]; simp)
          subst hk0
          rw [Nat.zero_mul, Nat.add_zero] at a0 a1
          obtain ⟨fn, tmps, assign, body, hy, hR⟩ := hY _ (4, td) _ hJ2 (by omega)
          simp only [encT] at hy
          gi_wp2
          refine hR.mono ?_
          rintro e W3 (⟨rfl, hJ3, hk3⟩ | ⟨rfl, hJx3⟩)
          · gi_wp2
            go_roundw
            case rel => exact ⟨0 + 1, by omega, by first | rfl | go_num, by rw [e1]; exact hJ3, hb2.trans hk3⟩
            case measure => simp [intOf]; omega
          · gi_wp2
            refine bodyPost_ret (results_none rfl _ _ _) rfl ?_
            exact ⟨⟨_, rfl⟩, .inr ⟨_, ⟨0 + 1, by omega, e1.symm⟩, hJx3⟩⟩
        · obtain ⟨k, rfl⟩ : ∃ m, k = m + 1 := ⟨k - 1, by omega⟩
          obtain ⟨p0, _⟩ := hc k (by omega)
          have p0 := (hb2.1.cell (p := ⟨b, off + k * 2, none⟩) hb).trans p0
          rw [Nat.add_sub_cancel] at hkeep
          generalize Kf k = kp at p0 hkeep
          have hk0b : ((k : Int) + 1 == 0) = false := beq_eq_false_iff_ne.2 (by omega)
          have hk1 : (k : Int) + 1 - 1 = (k : Int) := by omega
          have hk2 : (k : Int) < len := by omega
          by_cases hp : kp = 4
          · subst hp
            have e1 := onceP_no (l := zs) (k := k + 1) (by rw [hkeep]; simp)
            gi_wp2
            refine ⟨fun f h => (by cases h), ?_⟩
            gi_wp2
            go_roundw
            case rel => exact ⟨k + 1 + 1, by omega, by first | rfl | go_num, by rw [e1]; exact hJ2, hb2⟩
            case measure => simp [intOf]; omega
          · have e1 := yes (by rw [hkeep, decide_eq_false hp]; simp)
            have hpb : (kp == 4) = false := beq_eq_false_iff_ne.2 hp
            obtain ⟨fn, tmps, assign, body, hy, hR⟩ := hY _ (4, td) _ hJ2 (by omega)
            simp only [encT] at hy
            gi_wp2
            refine hR.mono ?_
            rintro e W3 (⟨rfl, hJ3, hk3⟩ | ⟨rfl, hJx3⟩)
            · gi_wp2
              go_roundw
              case rel => exact ⟨k + 1 + 1, by omega, by first | rfl | go_num, by rw [e1]; exact hJ3, hb2.trans hk3⟩
              case measure => simp [intOf]; omega
            · gi_wp2
              refine bodyPost_ret (results_none rfl _ _ _) rfl ?_
              exact ⟨⟨_, rfl⟩, .inr ⟨_, ⟨k + 1 + 1, by omega, e1.symm⟩, hJx3⟩⟩
      · have e1 := yes (by rw [hkeep, decide_eq_false h4]; rfl)
        have h4b : (kd == 4) = false := beq_eq_false_iff_ne.2 h4
        obtain ⟨fn, tmps, assign, body, hy, hR⟩ := hY _ (kd, td) _ hJ2 (by omega)
        simp only [encT] at hy
        gi_wp2
        refine hR.mono ?_
        rintro e W3 (⟨rfl, hJ3, hk3⟩ | ⟨rfl, hJx3⟩)
        · gi_wp2
          go_roundw
          case rel => exact ⟨k + 1, by omega, by first | rfl | go_num, by rw [e1]; exact hJ3, hb2.trans hk3⟩
          case measure => simp [intOf]; omega
        · gi_wp2
          refine bodyPost_ret (results_none rfl _ _ _) rfl ?_
          exact ⟨⟨_, rfl⟩, .inr ⟨_, ⟨k + 1, by omega, e1.symm⟩, hJx3⟩⟩
    · obtain rfl : k = len := by omega
      have hBs1 := (hnx.cell (o := Bo) hB).trans hBs
      gi_wp2
      go_end0
      exact ⟨⟨_, rfl⟩, .inl ⟨_, rfl, hJs⟩⟩
end Go.Proofs.Ytdmbodlkkdeaoaa.sm
namespace Go.Proofs.Ytdmbodlkkdeaoaa.sm
open Go.RowKit Go.Shelf
open sh bl
set_option linter.unusedVariables false
set_option linter.unusedSimpArgs false
attribute [local go_sem] Oper.semAt_some
/-- The slice value holds the tokens, in a block below n₀; or there are none. -/
def Toks (n₀ : Nat) (W : World) (sv : Value) (zs : List Tok) : Prop :=
  (∃ A c, sv = .slice A 0 c ∧ zs = [] ∧ c ≤ maxLen ∧ (A = none → c = 0)) ∨ ∃ b off cap, sv = .slice (some ⟨b, off, none⟩) zs.length cap ∧ b < n₀ ∧ (∀ j, j < zs.length → W.cell? ⟨b, off + j * 2, none⟩ = some (.int .i64 (zs.getD j zt).1) ∧ W.cell? ⟨b, off + j * 2 + 1, none⟩ = some (.string (zs.getD j zt).2)) ∧ zs.length ≤ cap ∧ cap ≤ maxLen
theorem Toks.below {n₀ : Nat} {A B : World} (h : Below n₀ A B) {sv : Value} {zs : List Tok} : Toks n₀ A sv zs → Toks n₀ B sv zs
  | .inl e => .inl e
  | .inr ⟨b, off, cap, e, hb, hc, h3⟩ => .inr ⟨b, off, cap, e, hb, fun j hj => ⟨(h.cell (p := ⟨b, off + j * 2, none⟩) hb).trans (hc j hj).1, (h.cell (p := ⟨b, off + j * 2 + 1, none⟩) hb).trans (hc j hj).2⟩, h3⟩
set_option maxRecDepth 100000 in
set_option maxHeartbeats 1000000 in
theorem singles1_nil_in (F : Fence) (n : Nat) (h7 : F.fn 91) (hro : F.round = none) (l Bs Bo : Nat) (J : List Tok → World → Prop) (W : World) (A : Option Addr) (c : Nat) (hBs : W.cell? ⟨Bs, Bo, none⟩ = some (.slice A 0 c)) (h0 : J [] W) :
    CallsIn F n Try.prog 91 #[.func (.yield l) #[] #[], .pointer (some ⟨Bs, Bo, none⟩)] W fun e W' => (∃ v, e = .returned v) ∧ J [] W' := by
  refine callsIn_of_wp Try.func91 rfl h7 ?_ hro
  simp only [Try.ntmps91, List.size_toArray, List.length_cons, List.length_nil, Nat.reduceAdd, Nat.reduceSub, Array.replicate_succ, Array.replicate_zero, List.push_toArray, List.append_toArray, List.nil_append, List.cons_append]
  gi_wp2
  gi_loopw [7] (fun i wr => i = .int .i64 0 ∧ J [] wr) (fun _ _ => 0)
  case atStart => exact ⟨rfl, h0⟩
  case round =>
    obtain ⟨rfl, hJs⟩ := hrel
    gi_wp2
    go_end0
    exact ⟨⟨_, rfl⟩, hJs⟩
theorem singles_stops (F : Fence) (n : Nat) (h7 : F.fn 91) (hro : F.round = none) (hn : 1 ≤ n) (Bs Bo n₀ : Nat) (sv : Value) (zs : List Tok) (hreach : zs.length * 24 ≤ 140737488355328) (w : World) (hBs : Bs < w.heap.size) (hn₀ : n₀ ≤ w.heap.size)
    (hc : w.cell? ⟨Bs, Bo, none⟩ = some sv) (hI : Toks n₀ w sv zs) :
    SeqStopsK F n Try.prog 91 #[.pointer (some ⟨Bs, Bo, none⟩)] (fun x : Tok => #[encT x]) (KpB n₀ Bs) (fun ys => ys = once zs) (fun pre => ∃ k, k ≤ zs.length ∧ pre = onceP zs k) zs.length w := fun l J Jx W hW hJ _ hY h0 => by
  have hc' := (hW.cell (p := ⟨Bs, Bo, none⟩) hBs).trans hc
  have hs := hW.size
  rcases hI.below (hW.mono hn₀) with ⟨A, c, rfl, rfl, _⟩ | ⟨b, off, cap, rfl, hb, hcs, _⟩
  · exact (singles1_nil_in F n h7 hro l Bs Bo J W A c hc' h0).mono fun e W' ⟨he, hj⟩ => ⟨he, .inl ⟨_, rfl, hj⟩⟩
  · refine (singles1_in F n h7 hro hn l Bs Bo n₀ b off zs.length cap zs (fun j => (zs.getD j zt).1) (fun j => (zs.getD j zt).2) (fun j => rfl) hreach hb J Jx W (by omega) (by omega) hJ hY hc' hcs h0).mono ?_
    rintro e W' ⟨he, ⟨ys, rfl, hj⟩ | ⟨pre, hk, hj⟩⟩
    · exact ⟨he, .inl ⟨_, rfl, hj⟩⟩
    · exact ⟨he, .inr ⟨_, hk, hj⟩⟩
set_option maxRecDepth 100000 in
theorem singles_c (A : Option Addr) (m c : Nat) (w : World) : Calls Try.prog 49 #[.slice A m c] w fun e w' => e = .returned (.func (.func 91) #[] #[.pointer (some ⟨w.heap.size, 0, none⟩)]) ∧ w' = w.alloc (.cells #[.slice A m c] 22) := by
  go_enter Try.func49, Try.ntmps49
  go_wp2
  go_ret
  exact ⟨rfl, rfl⟩
end Go.Proofs.Ytdmbodlkkdeaoaa.sm
