/-
  slices.Sorted(slices.Values(row)) at ints, as data.
-/
import Derived.Test.YtagggnjcpjodjaaIt0
import Derived.Test.YtagggnjcpjodjaaN18
import Derived.Test.YtagggnjcpjodjaaQ0
import Derived.Sort.OwnSorted
namespace Go.Proofs.Ytagggnjcpjodjaa
open Go.RowKit Go.Sort
set_option linter.unusedVariables false
set_option linter.unusedSimpArgs false
namespace it
def sortI (l : List Int) : List Int := l.mergeSort fun x y => decide (x ≤ y)
theorem sortI_len (l : List Int) : (sortI l).length = l.length := by simp [sortI]
set_option maxRecDepth 100000 in
set_option maxHeartbeats 1000000 in
theorem collect_c (Bs Bo : Nat) (sv : Value) (zs : List Int) (hlen : zs.length ≤ maxLen) (hbytes : zs.length * 8 ≤ 140737488355328) (w : World) (hBs : Bs < w.heap.size) (hc : w.cell? ⟨Bs, Bo, none⟩ = some sv) (hI : Ints w.heap.size w sv zs) :
    Calls Try.prog 41 #[.func (.func 43) #[] #[.pointer (some ⟨Bs, Bo, none⟩)]] w fun e W' => ∃ v, e = .returned v ∧ W'.ownsRow w.heap.size 3 1 v zs.length (zs.map (Value.int .i64)) ∧ (v = .slice none 0 0 ↔ zs = []) ∧ Below w.heap.size w W' := by
  have cA := (callsIn_wide (n := 6)).1 (appendSeq_in Fence.wide 6 trivial trivial rfl (by omega) Bs Bo sv zs hlen hbytes w hBs hc hI)
  go_enter Try.func41, Try.ntmps41
  go_wp2_with (go_at_call 72; refine cA.mono ?_; rintro e w' ⟨v, rfl, hrow, hnil, hb⟩)
  go_ret
  exact ⟨v, rfl, hrow, hnil, hb⟩
set_option maxRecDepth 100000 in
set_option maxHeartbeats 1000000 in
theorem sorted_c (Bs Bo : Nat) (sv : Value) (zs : List Int) (hlen : zs.length ≤ maxLen) (hbytes : zs.length * 8 ≤ 140737488355328) (w : World) (hBs : Bs < w.heap.size) (hc : w.cell? ⟨Bs, Bo, none⟩ = some sv) (hI : Ints w.heap.size w sv zs) :
    Calls Try.prog 10 #[.func (.func 43) #[] #[.pointer (some ⟨Bs, Bo, none⟩)]] w fun e W' => ∃ v, e = .returned v ∧ W'.ownsRow w.heap.size 3 1 v zs.length ((sortI zs).map (Value.int .i64)) ∧ Below w.heap.size w W' := by
  have cA := collect_c Bs Bo sv zs hlen hbytes w hBs hc hI
  go_enter Try.func10, Try.ntmps10
  go_wp2_with (go_at_call 41; refine cA.mono ?_; rintro e W ⟨v, rfl, hrow, hnil, hb⟩)
  rcases hrow.2 with ⟨rfl, hz⟩ | ⟨gb, cap, cur, rfl, hbase, hgb, r1, r2, r3, r4⟩
  · have hss : zs = [] := List.eq_nil_of_length_eq_zero hz
    subst hss
    go_wp2_with (go_at_call 42; refine (Try.slices_Sort_int_none none 0 W).mono ?_; rintro e w' ⟨rfl, rfl⟩)
    go_ret
    exact ⟨.slice none 0 0, rfl, by simpa [sortI] using hrow, hb⟩
  · have hH : Holds (Value.int .i64) W gb 0 zs.toArray := holds_of_block_i hgb (by simpa using r4)
    have hgl : gb < W.heap.size := (Array.getElem?_eq_some_iff.1 hgb).1
    have cS := Try.slices_Sort_int gb 0 cap zs W hH hgl (by omega)
    go_wp2_with (go_at_call 42; refine cS.mono ?_; rintro e w' ⟨rfl, nn, os, rfl⟩)
    go_ret
    exact ⟨_, rfl, ownsRow_sorted_i (by simp) hbase hgb r1 r2 r3, hb.grown (grownBy_sorted_i _) hb.size (fun j hj => by cases hj; exact hbase)⟩
section
variable (E : Env)
set_option maxRecDepth 100000
theorem sorted_sp (l : List Int) (hl : l.length * 8 ≤ 140737488355328) : Sp (cx Try.prog mixed tyT_ok E) 10 [.fn 43 [.ref 1 (fun j => ([.sl 1 8 l.length (fun i _ => i64 (l.getD i 0))] : List DD).getD (0 + j) .opq)]] (.sl 1 8 l.length (fun i _ => i64 ((sortI l).getD i 0))) := by
  refine .inl ⟨⟨_, _, Try.func10, by kernel_rfl, rfl⟩, fun M β w vs hG hMG hM hln hr hp hb => ?_⟩
  have key : ∃ b o u, vs = #[.func (.func 43) #[] #[.pointer (some ⟨b, o, none⟩)]] ∧ b < w.heap.size ∧ w.cell? ⟨b, o, none⟩ = some u ∧ Rep view M w b0 (.sl 1 8 l.length (fun i _ => i64 (l.getD i 0)) : DD) u := by
    have h0 := hr 0 _ rfl
    generalize hx : vs.getD 0 undef = x at h0
    cases h0 with
    | fn hn h =>
      rename_i us
      have h1 := h 0 _ rfl
      generalize hy : us.getD 0 undef = y at h1
      cases h1 with
      | ref u hu hrep =>
        rename_i b o
        obtain ⟨g1, g2, _⟩ := hu 0 (Nat.lt_succ_self 0)
        refine ⟨b, o, u 0, ?_, hM _ _ g1, g2, hrep 0 (Nat.lt_succ_self 0)⟩
        have e1 : us = #[.pointer (some ⟨b, o, none⟩)] := by
          apply Array.ext
          · simpa using hn
          · intro i q1 q2
            obtain rfl : i = 0 := by simp at q2; exact q2
            simpa [Array.getD, q1] using hy
        subst e1
        apply Array.ext
        · simpa using hln
        · intro i q1 q2
          obtain rfl : i = 0 := by simp at q2; exact q2
          simpa [Array.getD, q1] using hx
  obtain ⟨b, o, u, rfl, hbw, hcell, hrep⟩ := key
  have hI : Ints w.heap.size w u l := by
    generalize hn : l.length = n at hrep
    cases hrep with
    | nil hc hA => exact .inl ⟨_, _, rfl, List.eq_nil_of_length_eq_zero hn⟩
    | sl q hc hm hby hu hq =>
      rename_i c b' o'
      by_cases h0 : n = 0
      · subst h0
        exact .inl ⟨_, _, rfl, List.eq_nil_of_length_eq_zero hn⟩
      · refine .inr ⟨b', o', c, by rw [hn], hM _ _ (hu 0 0 (by omega) (Nat.lt_succ_self 0)).1, fun j hj => ?_⟩
        have h1 := (hu j 0 (by omega) (Nat.lt_succ_self 0)).2.1
        have h2 := (hq j 0 (by omega) (Nat.lt_succ_self 0)).val.1
        rw [Nat.mul_one, Nat.add_zero] at h1
        rw [h1, h2]
        simp [List.getD]
  refine (sorted_c b o u l (by show _ ≤ 9223372036854775807; omega) (by omega) w hbw hcell hI).mono fun e w' ⟨v, he, hrow, hbl⟩ => ?_
  refine ⟨v, fun b o => M b o ∨ (w.heap.size ≤ b ∧ b < w'.heap.size), β, he, Kp.of hbl _, fun _ _ _ => rfl, fun _ _ h => .inl h, fun b o h => h.elim .inl fun h => .inr (.inr h), ?_, ⟨fun l o hm => (by cases hm), fun l o l' o' b c c' hm => (by cases hm)⟩, fun b ⟨l, o, c, hm, _⟩ => (by cases hm)⟩
  have hsl := sortI_len l
  rcases hrow.2 with ⟨rfl, hz⟩ | ⟨g, cap, cur, rfl, hbase, hgb, r1, r2, r3, r4⟩
  · rw [hz]; exact Rep.nil (Nat.zero_le _) (fun _ => rfl)
  · have hgl : g < w'.heap.size := (Array.getElem?_eq_some_iff.1 hgb).1
    refine Rep.sl (fun i _ => .int .i64 ((sortI l).getD i 0)) r1 r2 (by omega) (fun i j hi hj => ?_) (fun i j hi hj => .v rfl)
    obtain rfl : j = 0 := by omega
    refine ⟨.inr ⟨hbase, hgl⟩, ?_, rfl⟩
    rw [cell_of_row _ _ _ _ _ _ hgb]
    have h4 := congrArg (fun L => L[i]?) r4
    simp only [List.getElem?_take, Nat.mul_one, hi, if_true, List.getElem?_map] at h4
    rw [Array.getElem?_toList] at h4
    rw [show 0 + i * 1 + 0 = i by omega, h4]
    simp [List.getD, show i < (sortI l).length by omega]
end
end it
end Go.Proofs.Ytagggnjcpjodjaa
