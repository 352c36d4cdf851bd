/-
  slices.Grow of nothing, slices.Concat of two rows of strings; joined, Route. (Turned from XRk6, XRk7.).
-/
import Derived.Test.YtocehfhhmljejaaGreatDoorDf0
import Derived.Test.YtocehfhhmljejaaGreatDoorU8
import Derived.Test.YtocehfhhmljejaaGreatDoorN19
import Derived.Test.YtocehfhhmljejaaGreatDoorChecked
import Derived.ProofKit
import Derived.WalkKit
import Derived.Lib.AppendZeros
namespace Go.Proofs.YtocehfhhmljejaaGreatDoor
open Go.RowKit
set_option linter.unusedVariables false
set_option linter.unusedSimpArgs false
namespace df
open cr se ap so tab mg
def sz2 (a b : List ByteArray) (k : Nat) : Nat := ([0, a.length, a.length + b.length] : List Nat).getD k 0
set_option maxHeartbeats 4000000 in
set_option maxRecDepth 100000 in
theorem grow_raw (n : Nat) (hn : n ≤ 1000000000) (w : World) :
    Calls Tryz.prog 79 #[.slice none 0 0, .int .i64 n] w fun e w' => (n = 0 ∧ e = .returned (.slice none 0 0) ∧ w' = w) ∨ ∃ c arr, e = .returned (.slice (some ⟨w.heap.size, 0, none⟩) 0 c) ∧ w' = w.drew.alloc (.cells arr 9) ∧ arr.size = c * 1 ∧ c ≤ maxLen := by
  have hneg : ¬ ((n : Int) < 0) := by omega
  have hw1 : IntKind.i64.wrap ((n : Int) - 0) = (n : Int) := by rw [IntKind.wrap_i64]; omega
  have hw0 : IntKind.i64.wrap ((n : Int)) = (n : Int) := by rw [IntKind.wrap_i64]; omega
  rcases Nat.eq_zero_or_pos n with rfl | h0
  · go_enter Tryz.func79, Tryz.ntmps79
    go_wp2
    go_ret
    exact .inl ⟨rfl, rfl⟩
  · obtain ⟨i0, hi0, hz, hs, hb⟩ : ∃ i0, Tryz.prog.info? 9 = some i0 ∧ i0.zero = some (.string ⟨#[]⟩) ∧ i0.size = 1 ∧ i0.bytes = 16 := ⟨_, rfl, by kernel_rfl, by kernel_rfl, by kernel_rfl⟩
    have hpos : (0 : Int) < (n : Int) := by omega
    have hpn : ¬ ((n : Int) ≤ 0) := by omega
    have hne : ¬ ((n : Int) = 0) := by omega
    have hrz := fun (W : World) ty => Lib.run_append_nil_zeros (P := Tryz.prog) W 23 3 ty 9 i0 _ .i64 .i64 Tryz.underlying23 Tryz.underlying3 hi0 hz n h0 (by omega) (by omega) (by rw [hb]; omega)
    have hge := grownCap_ge w n 0 9
    have hmx := grownCap_le_maxLen w n 0 9 (by unfold maxLen; omega)
    have hsz : (Builtin.zeroCells (Value.cells (.string ⟨#[]⟩)) n ++ Builtin.zeroCells (Value.cells (.string ⟨#[]⟩)) (grownCap w n 0 9 - n)).size = grownCap w n 0 9 * 1 := by
      rw [Array.size_append, size_zeroCells, size_zeroCells, show (Value.cells (.string ⟨#[]⟩)).size = 1 by rfl]
      omega
    go_enter Tryz.func79, Tryz.ntmps79
    go_wp2_with (at_builtin; refine Lib.wpList_append_run _ rfl _ _ _ _ rfl _ _ rfl rfl _ _ (hrz _ _) ?_)
    go_wp2
    go_ret
    exact .inr ⟨_, rfl, _, rfl, (by rw [Nat.mul_one] at hsz; exact hsz), hmx⟩
section
variable (E : Env)
set_option maxRecDepth 100000
theorem grow_l (n : Nat) (hn : n ≤ 1000000000) : SpH (cx Tryz.prog mixed tyT_ok E) 79 [.v (.slice none 0 0), i64 n] [] (.own 24 1 0 0) [(24, .row 9 0 (fun _ _ => .opq))] := by
  refine ⟨⟨_, _, Tryz.func79, by kernel_rfl, rfl⟩, fun M β w vs hG hMG hM hlv hr hH hbk => ?_⟩
  have evs : vs = #[.slice none 0 0, .int .i64 n] := by
    have hl : vs.size = 2 := hlv
    apply Array.ext
    · simpa using hl
    · intro k q1 q2
      have hk : k < 2 := by omega
      match k, hk with
      | 0, _ => simpa [Array.getD, q1] using (hr 0 _ rfl).val.1
      | 1, _ => simpa [Array.getD, q1] using (hr 1 _ rfl).val.1
  rw [evs]
  have hkn : (((cx Tryz.prog mixed tyT_ok E)).T 9).known = true := by kernel_rfl
  have hsz6 : (((cx Tryz.prog mixed tyT_ok E)).T 9).size = 1 := by kernel_rfl
  refine (grow_raw n hn w).mono ?_
  rintro e w' (⟨rfl, rfl, rfl⟩ | ⟨c, arr, rfl, rfl, hs, hc⟩)
  · refine ⟨_, M, upd β 24 none, rfl, Kp.refl _ _ _, fun l o hm => (by cases hm), fun _ _ h => h, fun _ _ h => .inl h, .ownNil (by unfold upd; simp), ⟨fun l o hm => ?_, fun l o l' o' b c c' hm hm' _ _ => ?_⟩, fun b ⟨l, o, c, hm, hb⟩ => ?_⟩
    · obtain ⟨rfl, rfl⟩ := Prod.mk.inj (List.mem_singleton.1 hm)
      exact ⟨rfl, hkn, .inl ⟨by unfold upd; simp, rfl⟩⟩
    · rw [(Prod.mk.inj (List.mem_singleton.1 hm)).1, (Prod.mk.inj (List.mem_singleton.1 hm')).1]
    · obtain ⟨rfl, rfl⟩ := Prod.mk.inj (List.mem_singleton.1 hm)
      exact absurd hb (by unfold upd; simp)
  · have hnew : (w.drew.alloc (.cells arr 9)).heap[w.heap.size]? = some (.cells arr 9 (0, 0)) := by
      show (w.heap.push _)[w.heap.size]? = _
      simp
    refine ⟨_, M, upd β 24 (some (w.heap.size, c)), rfl, Kp.of (((Below.refl _ w).drew).alloc (Nat.le_refl _) _) _, fun l o hm => (by cases hm), fun _ _ h => h, fun _ _ h => .inl h, ?_, ⟨fun l o hm => ?_, fun l o l' o' b c c' hm hm' _ _ => ?_⟩, fun b ⟨l, o, c', hm, hb⟩ => ?_⟩
    · have := Rep.own (V := view) (M := M) (w := w.drew.alloc (.cells arr 9)) (β := upd β 24 (some (w.heap.size, c))) (l := 24) (s := 1) (o := 0) (n := 0) (b := w.heap.size) (c := c) (by unfold upd; simp) (Nat.zero_le _) hc
      rw [Nat.zero_mul, Nat.sub_zero] at this
      exact this
    · obtain ⟨rfl, rfl⟩ := Prod.mk.inj (List.mem_singleton.1 hm)
      exact ⟨rfl, hkn, .inr ⟨w.heap.size, c, arr, by unfold upd; simp, hnew, by rw [hsz6]; exact hs, Nat.zero_le _, hc, by rw [Nat.zero_mul]; omega, fun i j hi => absurd hi (Nat.not_lt_zero i), fun q hq => absurd (hM _ _ hq) (Nat.lt_irrefl _)⟩⟩
    · rw [(Prod.mk.inj (List.mem_singleton.1 hm)).1, (Prod.mk.inj (List.mem_singleton.1 hm')).1]
    · obtain ⟨rfl, rfl⟩ := Prod.mk.inj (List.mem_singleton.1 hm)
      right
      unfold upd at hb
      simp at hb
      omega
theorem ab_1 (a b : List ByteArray) (i j : Nat) (hi : i < a.length) : Dle (cx Tryz.prog mixed tyT_ok E) (if i < 0 then dS ((a ++ b).getD i ⟨#[]⟩) else dS (a.getD (i - 0 + 0) ⟨#[]⟩)) (dS ((a ++ b).getD i ⟨#[]⟩)) := by
  rw [if_neg (Nat.not_lt_zero i), Nat.add_zero, Nat.sub_zero, show (a ++ b).getD i ⟨#[]⟩ = a.getD i ⟨#[]⟩ by rw [List.getD, List.getD, List.getElem?_append_left hi]]
  exact Dle.refl _ _
theorem ab_2 (a b : List ByteArray) (i j : Nat) (hi : i < a.length + b.length) : Dle (cx Tryz.prog mixed tyT_ok E) (if i < a.length then dS ((a ++ b).getD i ⟨#[]⟩) else dS (b.getD (i - a.length + 0) ⟨#[]⟩)) (dS ((a ++ b).getD i ⟨#[]⟩)) := by
  by_cases h : i < a.length
  · rw [if_pos h]; exact Dle.refl _ _
  · rw [if_neg h, Nat.add_zero, show (a ++ b).getD i ⟨#[]⟩ = b.getD (i - a.length) ⟨#[]⟩ by rw [List.getD, List.getD, List.getElem?_append_right (by omega)]]
    exact Dle.refl _ _
set_option maxHeartbeats 8000000 in
theorem concat_sp (a b : List ByteArray) (ha : a.length ≤ 100000000) (hb : b.length ≤ 100000000) :
    Sp (cx Tryz.prog mixed tyT_ok E) 43 [.sl 1 24 2 (fun i j => ([encStrs a, encStrs b] : List DD).getD (i * 1 + j) .opq)] (encStrs (a ++ b)) := by
  have c1 := grow_l E (a.length + b.length) (by omega)
  have hs0 : sz2 a b 0 = 0 := rfl
  have hs1 : sz2 a b 1 = a.length := rfl
  have hs2 : sz2 a b 2 = a.length + b.length := rfl
  refine Sp.body Tryz.func43 (by kernel_rfl) rfl (by kernel_rfl) (by kernel_rfl) (by kernel_rfl) ?_
  repeat' first
    | (refine codeW_cond rfl ?_; first | (refine condW_dec ?_ ?_ <;> intro _ <;> try (exfalso; omega)) | refine condW_not ?_ | (refine condW_bool ?_ ?_ <;> intro _ <;> try (exfalso; omega)))
    | (refine facW_intro ?_; intro _)
    | refine Or.inl ?_
    | ((conv => whnf); first | (refine condW_dec ?_ ?_ <;> intro _ <;> try (exfalso; omega)) | refine condW_not ?_ | (refine condW_bool ?_ ?_ <;> intro _ <;> try (exfalso; omega)) | (refine nbC_t (fun _ => ?_) ?_) | (refine nbC_f ?_ (fun _ => ?_)))
    | refine And.intro (by first | omega | (simp only [Int.toNat_natCast] at *; omega) | (simp only [Nat.reduceAdd, Int.cast_ofNat_Int, true_and, and_true]; omega)  | (simp only [cx, view, Nat.reduceAdd, Int.toNat_natCast]; omega) | kernel_rfl) ?_
    | refine RegW.run ?_
    | fail
  refine ⟨Nat, fun k => [(11, i64 k), (3, i64 (sz2 a b k))], fun k => [], [], fun k => [], fun k => k ≤ 2, fun k => 2 - k, ⟨0, by omega, ⟨[], ⟨by kernel_rfl, by kernel_rfl, by kernel_rfl, by kernel_rfl, by kernel_rfl, by kernel_rfl, by kernel_rfl⟩, (by repeat' first | exact trivial | exact rfl | kernel_rfl | exact Dle.of_eq rfl | exact MLe.of_eq rfl | exact Dle.i (by omega) | exact Dle.i (by simp only [Int.toNat_natCast] at *; omega) | exact Dle.nil | exact Dle.rc Dle.nil | exact Option.some_ne_none _ | exact Or.inl rfl | exact Or.inr trivial | omega | (simp only [Int.toNat_natCast] at *; omega) | (intro _ _ _ _; exact Dle.of_eq rfl) | refine And.intro ?_ ?_)⟩⟩, fun k hk => ?_⟩
  have hk2 : k ≤ 2 := hk
  rcases (by omega : k = 0 ∨ k = 1 ∨ k = 2) with rfl | rfl | rfl
  · repeat' first
      | (refine codeW_cond rfl ?_; first | (refine condW_dec ?_ ?_ <;> intro _ <;> try (exfalso; omega)) | refine condW_not ?_ | (refine condW_bool ?_ ?_ <;> intro _ <;> try (exfalso; omega)))
      | (refine facW_intro ?_; intro _)
      | refine Or.inl ?_
      | ((conv => whnf); first | (refine condW_dec ?_ ?_ <;> intro _ <;> try (exfalso; omega)) | refine condW_not ?_ | (refine condW_bool ?_ ?_ <;> intro _ <;> try (exfalso; omega)) | (refine nbC_t (fun _ => ?_) ?_) | (refine nbC_f ?_ (fun _ => ?_)))
      | refine And.intro (by first | omega | (simp only [Int.toNat_natCast] at *; omega) | (simp only [Nat.reduceAdd, Int.cast_ofNat_Int, true_and, and_true]; omega)  | (simp only [cx, view, Nat.reduceAdd, Int.toNat_natCast]; omega) | kernel_rfl) ?_
      | refine RegW.run ?_
      | fail
    all_goals first
      | (exfalso; omega)
      | exact ⟨1, by omega, ⟨[], ⟨by kernel_rfl, by kernel_rfl, by kernel_rfl, by kernel_rfl, by kernel_rfl, by kernel_rfl, by kernel_rfl⟩, (by repeat' first | (first | exact Dle.i (by show _ = ((a.length : Nat) : Int); simp) | exact Dle.i (by omega)) | exact trivial | exact rfl | kernel_rfl | exact Dle.of_eq rfl | exact MLe.of_eq rfl | exact Dle.i (by omega) | exact Dle.i (by simp only [Int.toNat_natCast] at *; omega) | exact Dle.nil | exact Dle.rc Dle.nil | exact Option.some_ne_none _ | exact Or.inl rfl | exact Or.inr trivial | omega | (simp only [Int.toNat_natCast] at *; omega) | (intro _ _ _ _; exact Dle.of_eq rfl) | refine And.intro ?_ ?_)⟩, by first | omega | (dsimp only; omega)⟩
      | trace_state
  · repeat' first
      | (refine codeW_cond rfl ?_; first | (refine condW_dec ?_ ?_ <;> intro _ <;> try (exfalso; omega)) | refine condW_not ?_ | (refine condW_bool ?_ ?_ <;> intro _ <;> try (exfalso; omega)))
      | (refine facW_intro ?_; intro _)
      | refine Or.inl ?_
      | ((conv => whnf); first | (refine condW_dec ?_ ?_ <;> intro _ <;> try (exfalso; omega)) | refine condW_not ?_ | (refine condW_bool ?_ ?_ <;> intro _ <;> try (exfalso; omega)) | (refine nbC_t (fun _ => ?_) ?_) | (refine nbC_f ?_ (fun _ => ?_)))
      | refine And.intro (by first | omega | (simp only [Int.toNat_natCast] at *; omega) | (simp only [Nat.reduceAdd, Int.cast_ofNat_Int, true_and, and_true]; omega)  | (simp only [cx, view, Nat.reduceAdd, Int.toNat_natCast]; omega) | kernel_rfl) ?_
      | refine RegW.run ?_
      | fail
    all_goals first
      | (exfalso; omega)
      | exact ⟨2, by omega, ⟨[], ⟨by kernel_rfl, by kernel_rfl, by kernel_rfl, by kernel_rfl, by kernel_rfl, by kernel_rfl, by kernel_rfl⟩, (by repeat' first | (first | exact Dle.i (by show _ = ((a.length + b.length : Nat) : Int); simp [hs1]) | exact Dle.i (by omega)) | exact trivial | exact rfl | kernel_rfl | exact Dle.of_eq rfl | exact MLe.of_eq rfl | exact Dle.i (by omega) | exact Dle.i (by simp only [Int.toNat_natCast] at *; omega) | exact Dle.nil | exact Dle.rc Dle.nil | exact Option.some_ne_none _ | exact Or.inl rfl | exact Or.inr trivial | omega | (simp only [Int.toNat_natCast] at *; omega) | (intro _ _ _ _; exact Dle.of_eq rfl) | refine And.intro ?_ ?_)⟩, by first | omega | (dsimp only; omega)⟩
      | trace_state
  · repeat' first
      | refine Or.inr ⟨_, _, _, Or.inl (c1), by kernel_rfl, (by repeat' first | exact trivial | exact rfl | kernel_rfl | exact Dle.of_eq rfl | exact MLe.of_eq rfl | exact Dle.i (by omega) | exact Dle.i (by simp only [Int.toNat_natCast] at *; omega) | exact Dle.nil | exact Dle.rc Dle.nil | exact Option.some_ne_none _ | exact Or.inl rfl | exact Or.inr trivial | omega | (simp only [Int.toNat_natCast] at *; omega) | (intro _ _ _ _; exact Dle.of_eq rfl) | refine And.intro ?_ ?_), ?_⟩
      | (refine codeW_cond rfl ?_; first | (refine condW_dec ?_ ?_ <;> intro _ <;> try (exfalso; omega)) | refine condW_not ?_ | (refine condW_bool ?_ ?_ <;> intro _ <;> try (exfalso; omega)))
      | (refine facW_intro ?_; intro _)
      | refine Or.inl ?_
      | ((conv => whnf); first | (refine condW_dec ?_ ?_ <;> intro _ <;> try (exfalso; omega)) | refine condW_not ?_ | (refine condW_bool ?_ ?_ <;> intro _ <;> try (exfalso; omega)) | (refine nbC_t (fun _ => ?_) ?_) | (refine nbC_f ?_ (fun _ => ?_)))
      | refine And.intro (by first | omega | (simp only [Int.toNat_natCast] at *; omega) | (simp only [Nat.reduceAdd, Int.cast_ofNat_Int, true_and, and_true]; omega)  | (simp only [cx, view, Nat.reduceAdd, Int.toNat_natCast]; omega) | kernel_rfl) ?_
      | refine RegW.run ?_
      | fail
    refine ⟨Nat, fun k => [(27, i64 k), (6, .own 27 1 0 (sz2 a b k))], fun k => [], [], fun k => [(27, 9, sz2 a b k, fun i j => dS ((a ++ b).getD i ⟨#[]⟩))], fun k => k ≤ 2, fun k => 2 - k, ⟨0, by omega, ⟨[(27, some 24)], ⟨by kernel_rfl, by kernel_rfl, by kernel_rfl, by kernel_rfl, by kernel_rfl, by kernel_rfl, by kernel_rfl⟩, (by repeat' first | (first | exact hs0 | exact hs0.symm | (intro i j hi hj; exact absurd hi (Nat.not_lt_zero i))) | exact trivial | exact rfl | kernel_rfl | exact Dle.of_eq rfl | exact MLe.of_eq rfl | exact Dle.i (by omega) | exact Dle.i (by simp only [Int.toNat_natCast] at *; omega) | exact Dle.nil | exact Dle.rc Dle.nil | exact Option.some_ne_none _ | exact Or.inl rfl | exact Or.inr trivial | omega | (simp only [Int.toNat_natCast] at *; omega) | (intro _ _ _ _; exact Dle.of_eq rfl) | refine And.intro ?_ ?_)⟩⟩, fun k hk => ?_⟩
    have hk2 : k ≤ 2 := hk
    rcases (by omega : k = 0 ∨ k = 1 ∨ k = 2) with rfl | rfl | rfl
    · repeat' first
        | refine And.intro (show sz2 a b 0 ≤ sz2 a b 0 ∧ (sz2 a b 0 + a.length) * 16 ≤ 140737488355328 by omega) ?_
        | (refine codeW_cond rfl ?_; first | (refine condW_dec ?_ ?_ <;> intro _ <;> try (exfalso; omega)) | refine condW_not ?_ | (refine condW_bool ?_ ?_ <;> intro _ <;> try (exfalso; omega)))
        | (refine facW_intro ?_; intro _)
        | refine Or.inl ?_
        | ((conv => whnf); first | (refine condW_dec ?_ ?_ <;> intro _ <;> try (exfalso; omega)) | refine condW_not ?_ | (refine condW_bool ?_ ?_ <;> intro _ <;> try (exfalso; omega)) | (refine nbC_t (fun _ => ?_) ?_) | (refine nbC_f ?_ (fun _ => ?_)))
        | refine And.intro (by first | omega | (simp only [Int.toNat_natCast] at *; omega) | (simp only [Nat.reduceAdd, Int.cast_ofNat_Int, true_and, and_true]; omega)  | (simp only [cx, view, Nat.reduceAdd, Int.toNat_natCast]; omega) | kernel_rfl) ?_
        | refine RegW.run ?_
        | fail
      all_goals first
        | (exfalso; omega)
        | exact ⟨1, by omega, ⟨[(27, some 33)], ⟨by kernel_rfl, by kernel_rfl, by kernel_rfl, by kernel_rfl, by kernel_rfl, by kernel_rfl, by kernel_rfl⟩, (by repeat' first | (exact (Nat.zero_add _)) | exact trivial | exact rfl | kernel_rfl | exact Dle.of_eq rfl | exact MLe.of_eq rfl | exact Dle.i (by omega) | exact Dle.i (by simp only [Int.toNat_natCast] at *; omega) | exact Dle.nil | exact Dle.rc Dle.nil | exact Option.some_ne_none _ | exact Or.inl rfl | exact Or.inr trivial | omega | (simp only [Int.toNat_natCast] at *; omega) | (intro _ _ _ _; exact Dle.of_eq rfl) | (intro i j hi hj; exact ab_1 E a b i j (by have h : i < 0 + a.length := hi; omega)) | refine And.intro ?_ ?_)⟩, by first | omega | (dsimp only; omega)⟩
        | trace_state
    · repeat' first
        | refine And.intro (show sz2 a b 1 ≤ sz2 a b 1 ∧ (sz2 a b 1 + b.length) * 16 ≤ 140737488355328 by omega) ?_
        | (refine codeW_cond rfl ?_; first | (refine condW_dec ?_ ?_ <;> intro _ <;> try (exfalso; omega)) | refine condW_not ?_ | (refine condW_bool ?_ ?_ <;> intro _ <;> try (exfalso; omega)))
        | (refine facW_intro ?_; intro _)
        | refine Or.inl ?_
        | ((conv => whnf); first | (refine condW_dec ?_ ?_ <;> intro _ <;> try (exfalso; omega)) | refine condW_not ?_ | (refine condW_bool ?_ ?_ <;> intro _ <;> try (exfalso; omega)) | (refine nbC_t (fun _ => ?_) ?_) | (refine nbC_f ?_ (fun _ => ?_)))
        | refine And.intro (by first | omega | (simp only [Int.toNat_natCast] at *; omega) | (simp only [Nat.reduceAdd, Int.cast_ofNat_Int, true_and, and_true]; omega)  | (simp only [cx, view, Nat.reduceAdd, Int.toNat_natCast]; omega) | kernel_rfl) ?_
        | refine RegW.run ?_
        | fail
      all_goals first
        | (exfalso; omega)
        | exact ⟨2, by omega, ⟨[(27, some 33)], ⟨by kernel_rfl, by kernel_rfl, by kernel_rfl, by kernel_rfl, by kernel_rfl, by kernel_rfl, by kernel_rfl⟩, (by repeat' first | (exact rfl) | exact trivial | exact rfl | kernel_rfl | exact Dle.of_eq rfl | exact MLe.of_eq rfl | exact Dle.i (by omega) | exact Dle.i (by simp only [Int.toNat_natCast] at *; omega) | exact Dle.nil | exact Dle.rc Dle.nil | exact Option.some_ne_none _ | exact Or.inl rfl | exact Or.inr trivial | omega | (simp only [Int.toNat_natCast] at *; omega) | (intro _ _ _ _; exact Dle.of_eq rfl) | (intro i j hi hj; exact ab_2 E a b i j (Nat.lt_of_lt_of_eq hi hs2)) | refine And.intro ?_ ?_)⟩, by first | omega | (dsimp only; omega)⟩
        | trace_state
    · repeat' first
        | (refine codeW_cond rfl ?_; first | (refine condW_dec ?_ ?_ <;> intro _ <;> try (exfalso; omega)) | refine condW_not ?_ | (refine condW_bool ?_ ?_ <;> intro _ <;> try (exfalso; omega)))
        | (refine facW_intro ?_; intro _)
        | refine Or.inl ?_
        | ((conv => whnf); first | (refine condW_dec ?_ ?_ <;> intro _ <;> try (exfalso; omega)) | refine condW_not ?_ | (refine condW_bool ?_ ?_ <;> intro _ <;> try (exfalso; omega)) | (refine nbC_t (fun _ => ?_) ?_) | (refine nbC_f ?_ (fun _ => ?_)))
        | refine And.intro (by first | omega | (simp only [Int.toNat_natCast] at *; omega) | (simp only [Nat.reduceAdd, Int.cast_ofNat_Int, true_and, and_true]; omega)  | (simp only [cx, view, Nat.reduceAdd, Int.toNat_natCast]; omega) | kernel_rfl) ?_
        | refine RegW.run ?_
        | fail
      all_goals first
        | (exfalso; omega)
        | exact Dle.sl (X := (cx Tryz.prog mixed tyT_ok E)) (show sz2 a b 2 = (a ++ b).length by rw [hs2, List.length_append]) (fun i j hi hj => Dle.refl _ _)
        | trace_state
theorem joined_sp (r p : ByteArray) (h : r.size + p.size ≤ 1000000000000000) : Sp (cx Tryz.prog mixed tyT_ok E) 35 [dS r, dS p] (dS (joinQ r p)) := by
  have h1 : (r ++ ⟨#[46]⟩).size = r.size + 1 := by rw [ByteArray.size_append]; rfl
  have h2 : (⟨#[46]⟩ : ByteArray).size = 1 := rfl
  refine Sp.body Tryz.func35 (by kernel_rfl) rfl (by kernel_rfl) (by kernel_rfl) (by kernel_rfl) ?_
  repeat' first
    | (refine codeW_cond rfl ?_; first | (refine condW_dec ?_ ?_ <;> intro _ <;> try (exfalso; omega)) | refine condW_not ?_ | (refine condW_bool ?_ ?_ <;> intro _ <;> try (exfalso; omega)))
    | (refine facW_intro ?_; intro _)
    | refine Or.inl ?_
    | ((conv => whnf); first | (refine condW_dec ?_ ?_ <;> intro _ <;> try (exfalso; omega)) | refine condW_not ?_ | (refine condW_bool ?_ ?_ <;> intro _ <;> try (exfalso; omega)) | (refine nbC_t (fun _ => ?_) ?_) | (refine nbC_f ?_ (fun _ => ?_)))
    | refine And.intro (by first | omega | (simp only [Int.toNat_natCast] at *; omega) | (simp only [Nat.reduceAdd, Int.cast_ofNat_Int, true_and, and_true]; omega)  | (simp only [cx, view, Nat.reduceAdd, Int.toNat_natCast]; omega) | kernel_rfl) ?_
    | refine RegW.run ?_
    | fail
  all_goals first
    | exact Dle.s (by unfold joinQ; rw [if_pos (by assumption)])
    | exact Dle.s (by unfold joinQ; rw [if_neg (by assumption)])
    | trace_state
theorem route_sp (r p : ByteArray) (h : r.size + p.size ≤ 1000000000000000) : Sp (cx Tryz.prog mixed tyT_ok E) 45 [dS r, dS p] (dS (joinQ r p)) := by
  have h1 : (r ++ ⟨#[46]⟩).size = r.size + 1 := by rw [ByteArray.size_append]; rfl
  have h2 : (⟨#[46]⟩ : ByteArray).size = 1 := rfl
  refine Sp.body Tryz.func45 (by kernel_rfl) rfl (by kernel_rfl) (by kernel_rfl) (by kernel_rfl) ?_
  repeat' first
    | (refine codeW_cond rfl ?_; first | (refine condW_dec ?_ ?_ <;> intro _ <;> try (exfalso; omega)) | refine condW_not ?_ | (refine condW_bool ?_ ?_ <;> intro _ <;> try (exfalso; omega)))
    | (refine facW_intro ?_; intro _)
    | refine Or.inl ?_
    | ((conv => whnf); first | (refine condW_dec ?_ ?_ <;> intro _ <;> try (exfalso; omega)) | refine condW_not ?_ | (refine condW_bool ?_ ?_ <;> intro _ <;> try (exfalso; omega)) | (refine nbC_t (fun _ => ?_) ?_) | (refine nbC_f ?_ (fun _ => ?_)))
    | refine And.intro (by first | omega | (simp only [Int.toNat_natCast] at *; omega) | (simp only [Nat.reduceAdd, Int.cast_ofNat_Int, true_and, and_true]; omega)  | (simp only [cx, view, Nat.reduceAdd, Int.toNat_natCast]; omega) | kernel_rfl) ?_
    | refine RegW.run ?_
    | fail
  all_goals first
    | exact Dle.s (by unfold joinQ; rw [if_pos (by assumption)])
    | exact Dle.s (by unfold joinQ; rw [if_neg (by assumption)])
    | trace_state
theorem sameOf_sp (a b : Vu) : Sp (cx Tryz.prog mixed tyT_ok E) 39 [encV a, encV b] (dB (decide (cmpV a b = 0))) := by
  have h1 := compareOf_sp E _ a b (Nat.lt_succ_self _)
  generalize cmpV a b = r at h1
  refine Sp.body Tryz.func39 (by kernel_rfl) rfl (by kernel_rfl) (by kernel_rfl) (by kernel_rfl) ?_
  repeat' first
    | (refine codeW_cond rfl ?_; first | (refine condW_dec ?_ ?_ <;> intro _ <;> try (exfalso; omega)) | refine condW_not ?_ | (refine condW_bool ?_ ?_ <;> intro _ <;> try (exfalso; omega)))
    | (refine facW_intro ?_; intro _)
    | refine Or.inl ?_
    | ((conv => whnf); first | (refine condW_dec ?_ ?_ <;> intro _) | refine condW_not ?_ | (refine condW_bool ?_ ?_ <;> intro _) | (refine nbC_t (fun _ => ?_) ?_) | (refine nbC_f ?_ (fun _ => ?_)))
    | refine And.intro (by first | omega | (simp only [Int.toNat_natCast] at *; omega) | (simp only [Nat.reduceAdd, Int.cast_ofNat_Int, true_and, and_true]; omega)  | (simp only [cx, view, Nat.reduceAdd, Int.toNat_natCast]; omega) | kernel_rfl) ?_
    | refine RegW.run ?_
    | refine ⟨_, h1, ?_⟩
    | fail
  all_goals exact Dle.refl _ _
end
end df
end Go.Proofs.YtocehfhhmljejaaGreatDoor
