/-
  asset.singles: what it yields; asset.smaller.
-/
import Derived.Test.YtdmbodlkkdeaoaaSm0
namespace Go.Proofs.Ytdmbodlkkdeaoaa.sm
open Go.RowKit Go.Shelf
open sh bl
set_option linter.unusedVariables false
set_option linter.unusedSimpArgs false
attribute [local go_sem] Oper.semAt_some
/-- The slice value holds the tokens, in a block below n₀; or there are none. -/
def Toks (n₀ : Nat) (W : World) (sv : Value) (zs : List Tok) : Prop :=
  (∃ A c, sv = .slice A 0 c ∧ zs = [] ∧ c ≤ maxLen ∧ (A = none → c = 0)) ∨ ∃ b off cap, sv = .slice (some ⟨b, off, none⟩) zs.length cap ∧ b < n₀ ∧ (∀ j, j < zs.length → W.cell? ⟨b, off + j * 2, none⟩ = some (.int .i64 (zs.getD j zt).1) ∧ W.cell? ⟨b, off + j * 2 + 1, none⟩ = some (.string (zs.getD j zt).2)) ∧ zs.length ≤ cap ∧ cap ≤ maxLen
theorem Toks.below {n₀ : Nat} {A B : World} (h : Below n₀ A B) {sv : Value} {zs : List Tok} : Toks n₀ A sv zs → Toks n₀ B sv zs
  | .inl e => .inl e
  | .inr ⟨b, off, cap, e, hb, hc, h3⟩ => .inr ⟨b, off, cap, e, hb, fun j hj => ⟨(h.cell (p := ⟨b, off + j * 2, none⟩) hb).trans (hc j hj).1, (h.cell (p := ⟨b, off + j * 2 + 1, none⟩) hb).trans (hc j hj).2⟩, h3⟩
set_option maxRecDepth 100000 in
set_option maxHeartbeats 1000000 in
theorem singles1_nil_in (F : Fence) (n : Nat) (h7 : F.fn 91) (hro : F.round = none) (l Bs Bo : Nat) (J : List Tok → World → Prop) (W : World) (A : Option Addr) (c : Nat) (hBs : W.cell? ⟨Bs, Bo, none⟩ = some (.slice A 0 c)) (h0 : J [] W) :
    CallsIn F n Try.prog 91 #[.func (.yield l) #[] #[], .pointer (some ⟨Bs, Bo, none⟩)] W fun e W' => (∃ v, e = .returned v) ∧ J [] W' := by
  refine callsIn_of_wp Try.func91 rfl h7 ?_ hro
  simp only [Try.ntmps91, List.size_toArray, List.length_cons, List.length_nil, Nat.reduceAdd, Nat.reduceSub, Array.replicate_succ, Array.replicate_zero, List.push_toArray, List.append_toArray, List.nil_append, List.cons_append]
  gi_wp2
  gi_loopw [7] (fun i wr => i = .int .i64 0 ∧ J [] wr) (fun _ _ => 0)
  case atStart => exact ⟨rfl, h0⟩
  case round =>
    obtain ⟨rfl, hJs⟩ := hrel
    gi_wp2
    go_end0
    exact ⟨⟨_, rfl⟩, hJs⟩
theorem singles_stops (F : Fence) (n : Nat) (h7 : F.fn 91) (hro : F.round = none) (hn : 1 ≤ n) (Bs Bo n₀ : Nat) (sv : Value) (zs : List Tok) (hreach : zs.length * 24 ≤ 140737488355328) (w : World) (hBs : Bs < w.heap.size) (hn₀ : n₀ ≤ w.heap.size)
    (hc : w.cell? ⟨Bs, Bo, none⟩ = some sv) (hI : Toks n₀ w sv zs) :
    SeqStopsK F n Try.prog 91 #[.pointer (some ⟨Bs, Bo, none⟩)] (fun x : Tok => #[encT x]) (KpB n₀ Bs) (fun ys => ys = once zs) (fun pre => ∃ k, k ≤ zs.length ∧ pre = onceP zs k) zs.length w := fun l J Jx W hW hJ _ hY h0 => by
  have hc' := (hW.cell (p := ⟨Bs, Bo, none⟩) hBs).trans hc
  have hs := hW.size
  rcases hI.below (hW.mono hn₀) with ⟨A, c, rfl, rfl, _⟩ | ⟨b, off, cap, rfl, hb, hcs, _⟩
  · exact (singles1_nil_in F n h7 hro l Bs Bo J W A c hc' h0).mono fun e W' ⟨he, hj⟩ => ⟨he, .inl ⟨_, rfl, hj⟩⟩
  · refine (singles1_in F n h7 hro hn l Bs Bo n₀ b off zs.length cap zs (fun j => (zs.getD j zt).1) (fun j => (zs.getD j zt).2) (fun j => rfl) hreach hb J Jx W (by omega) (by omega) hJ hY hc' hcs h0).mono ?_
    rintro e W' ⟨he, ⟨ys, rfl, hj⟩ | ⟨pre, hk, hj⟩⟩
    · exact ⟨he, .inl ⟨_, rfl, hj⟩⟩
    · exact ⟨he, .inr ⟨_, hk, hj⟩⟩
set_option maxRecDepth 100000 in
theorem singles_c (A : Option Addr) (m c : Nat) (w : World) : Calls Try.prog 49 #[.slice A m c] w fun e w' => e = .returned (.func (.func 91) #[] #[.pointer (some ⟨w.heap.size, 0, none⟩)]) ∧ w' = w.alloc (.cells #[.slice A m c] 22) := by
  go_enter Try.func49, Try.ntmps49
  go_wp2
  go_ret
  exact ⟨rfl, rfl⟩
end Go.Proofs.Ytdmbodlkkdeaoaa.sm
