/-
  list.Union, Meet, Minus. slices.Grow of nothing, slices.Concat of two rows of values. slices.Concat of two rows of values; the law's own closure: whether a value is in a row.
-/
import Derived.Test.YthoemnhigboahaaGreatDoorRk4
import Derived.Test.YthoemnhigboahaaGreatDoorChecked
import Derived.ProofKit
import Derived.WalkKit
import Derived.Lib.AppendZeros
namespace Go.Proofs.YthoemnhigboahaaGreatDoor
open Go.RowKit
set_option linter.unusedVariables false
set_option linter.unusedSimpArgs false
namespace rk
open sb sq
section
variable (E : Env)
set_option maxRecDepth 100000
theorem meet_sp (a b : List Vu) (ha : Vu.wtL a ≤ 100000000) (hb : Vu.wtL b ≤ 100000000) (hla : a.length ≤ 1000000000) (hlb : b.length ≤ 1000000000) :
    Sp (cx Tryz.prog mixed tyT_ok E) 6 [.rc (.vals a), .rc (.vals b)] (.tup [.rc (.vals (if twoE a b = 0 then pk (fun v => inV b v == true) a a.length else [])), i64 (twoE a b)]) := by
  have h1 := chosen_sp E a b ha hb true hla hlb
  refine Sp.body Tryz.func6 (by kernel_rfl) rfl (by kernel_rfl) (by kernel_rfl) (by kernel_rfl) ?_
  repeat' first
    | (refine codeW_cond rfl ?_; first | (refine condW_dec ?_ ?_ <;> intro _ <;> try (exfalso; omega)) | refine condW_not ?_ | (refine condW_bool ?_ ?_ <;> intro _ <;> try (exfalso; omega)))
    | (refine facW_intro ?_; intro _)
    | refine Or.inl ?_
    | ((conv => whnf); first | (refine condW_dec ?_ ?_ <;> intro _ <;> try (exfalso; omega)) | refine condW_not ?_ | (refine condW_bool ?_ ?_ <;> intro _ <;> try (exfalso; omega)) | (refine nbC_t (fun _ => ?_) ?_) | (refine nbC_f ?_ (fun _ => ?_)))
    | refine And.intro (by first | omega | (simp only [Int.toNat_natCast] at *; omega) | (simp only [Nat.reduceAdd, Int.cast_ofNat_Int, true_and, and_true]; omega)  | kernel_rfl) ?_
    | refine RegW.run ?_
    | refine ⟨_, h1, ?_⟩
    | fail
  all_goals first
    | exact Dle.refl _ _
    | trace_state
theorem minus_sp (a b : List Vu) (ha : Vu.wtL a ≤ 100000000) (hb : Vu.wtL b ≤ 100000000) (hla : a.length ≤ 1000000000) (hlb : b.length ≤ 1000000000) :
    Sp (cx Tryz.prog mixed tyT_ok E) 7 [.rc (.vals a), .rc (.vals b)] (.tup [.rc (.vals (if twoE a b = 0 then pk (fun v => inV b v == false) a a.length else [])), i64 (twoE a b)]) := by
  have h1 := chosen_sp E a b ha hb false hla hlb
  refine Sp.body Tryz.func7 (by kernel_rfl) rfl (by kernel_rfl) (by kernel_rfl) (by kernel_rfl) ?_
  repeat' first
    | (refine codeW_cond rfl ?_; first | (refine condW_dec ?_ ?_ <;> intro _ <;> try (exfalso; omega)) | refine condW_not ?_ | (refine condW_bool ?_ ?_ <;> intro _ <;> try (exfalso; omega)))
    | (refine facW_intro ?_; intro _)
    | refine Or.inl ?_
    | ((conv => whnf); first | (refine condW_dec ?_ ?_ <;> intro _ <;> try (exfalso; omega)) | refine condW_not ?_ | (refine condW_bool ?_ ?_ <;> intro _ <;> try (exfalso; omega)) | (refine nbC_t (fun _ => ?_) ?_) | (refine nbC_f ?_ (fun _ => ?_)))
    | refine And.intro (by first | omega | (simp only [Int.toNat_natCast] at *; omega) | (simp only [Nat.reduceAdd, Int.cast_ofNat_Int, true_and, and_true]; omega)  | kernel_rfl) ?_
    | refine RegW.run ?_
    | refine ⟨_, h1, ?_⟩
    | fail
  all_goals first
    | exact Dle.refl _ _
    | trace_state
def abF (a b : List Vu) (i j : Nat) : DD := if i < a.length then (a.getD i .zero).cell j else (b.getD (i - a.length) .zero).cell j
theorem ab_get (a b : List Vu) (i j : Nat) : abF a b i j = ((a ++ b).getD i .zero).cell j := by
  unfold abF
  by_cases h : i < a.length
  · rw [if_pos h, show (a ++ b).getD i .zero = a.getD i .zero by simp [List.getD, List.getElem?_append_left h]]
  · rw [if_neg h, show (a ++ b).getD i .zero = b.getD (i - a.length) .zero by simp [List.getD, List.getElem?_append_right (Nat.le_of_not_lt h)]]
theorem firsts_ab (a b : List Vu) (h : (a ++ b).length ≤ 1000000000) : Sp (cx Tryz.prog mixed tyT_ok E) 19 [.sl 6 88 (a.length + b.length) (abF a b)] (.sl 1 1 (a ++ b).length (fun i _ => dB (fstV (a ++ b) i))) :=
  Sp.args (firsts_sp E (a ++ b) h) ⟨Dle.rc (X := (cx Tryz.prog mixed tyT_ok E)) (Dle.sl (X := (cx Tryz.prog mixed tyT_ok E)) (List.length_append).symm (fun i j hi hj => Dle.of_eq (ab_get a b i j))), trivial⟩
theorem ab_cells (a b : List Vu) (k i : Nat) (e : k = i) : [abF a b k 0, abF a b k 1, abF a b k 2, abF a b k 3, abF a b k 4, abF a b k 5] = (encV ((a ++ b).getD i .zero)).cells := by
  subst e
  rw [ab_get, ab_get, ab_get, ab_get, ab_get, ab_get]
  rfl
theorem partW_eq {ti : TyI} {o : Nat} {cs cs' : List DD} {K : DD → Prop} (h : cs = cs') (g : partW ti o cs' K) : partW ti o cs K := h ▸ g
theorem wtL_app (a b : List Vu) : Vu.wtL (a ++ b) = Vu.wtL a + Vu.wtL b := by
  induction a with
  | nil => simp [Vu.wtL]
  | cons x a ih => simp only [List.cons_append, Vu.wtL, ih]; omega
set_option maxHeartbeats 8000000 in
theorem union_sp (a b : List Vu) (ha : Vu.wtL a ≤ 100000000) (hb : Vu.wtL b ≤ 100000000) (hla : a.length ≤ 100000000) (hlb : b.length ≤ 100000000) :
    Sp (cx Tryz.prog mixed tyT_ok E) 5 [.rc (.vals a), .rc (.vals b)] (.tup [.rc (.vals (if twoE a b = 0 then pk (fun _ => true) (a ++ b) (a ++ b).length else [])), i64 (twoE a b)]) := by
  have h1 := twoLists_sp E a b ha hb
  have hln : (a ++ b).length = a.length + b.length := List.length_append
  have h3 := firsts_ab E a b (by omega)
  generalize twoE a b = e at h1
  by_cases he : e = 0
  · rw [if_pos he, he]
    rw [he] at h1
    have hl0 : (pk (fun _ => true) (a ++ b) 0).length = 0 := rfl
    refine Sp.body Tryz.func5 (by kernel_rfl) rfl (by kernel_rfl) (by kernel_rfl) (by kernel_rfl) ?_
    repeat' first
      | refine And.intro (show a.length * 88 ≤ 140737488355328 by omega) ?_
      | refine And.intro (show a.length ≤ a.length ∧ (a.length + b.length) * 88 ≤ 140737488355328 by omega) ?_
      | (refine codeW_cond rfl ?_; first | (refine condW_dec ?_ ?_ <;> intro _ <;> try (exfalso; omega)) | refine condW_not ?_ | (refine condW_bool ?_ ?_ <;> intro _ <;> try (exfalso; omega)))
      | (refine facW_intro ?_; intro _)
      | refine Or.inl ?_
      | ((conv => whnf); first | (refine condW_dec ?_ ?_ <;> intro _ <;> try (exfalso; omega)) | refine condW_not ?_ | (refine condW_bool ?_ ?_ <;> intro _ <;> try (exfalso; omega)) | (refine nbC_t (fun _ => ?_) ?_) | (refine nbC_f ?_ (fun _ => ?_)))
      | refine And.intro (by first | omega | (simp only [Int.toNat_natCast] at *; omega) | (simp only [Nat.reduceAdd, Int.cast_ofNat_Int, true_and, and_true]; omega)  | kernel_rfl) ?_
      | refine RegW.run ?_
      | refine ⟨_, h1, ?_⟩
      | refine ⟨_, h3, ?_⟩
      | fail
    refine ⟨Nat, fun i => [(24, i64 i), (8, .own 24 6 0 (pk (fun _ => true) (a ++ b) i).length)], fun i => [], [20], fun i => [(24, 30, (pk (fun _ => true) (a ++ b) i).length, fun k j => ((pk (fun _ => true) (a ++ b) i).getD k .zero).cell j)], fun i => i ≤ a.length + b.length, fun i => a.length + b.length - i, ⟨0, by omega, ⟨[(24, none)], ⟨by kernel_rfl, by kernel_rfl, by kernel_rfl, by kernel_rfl, by kernel_rfl, by kernel_rfl, by kernel_rfl⟩, (by repeat' first | (exact hl0) | exact trivial | exact rfl | kernel_rfl | exact Dle.of_eq rfl | exact MLe.of_eq rfl | exact Dle.i (by omega) | exact Dle.i (by simp only [Int.toNat_natCast] at *; omega) | exact Dle.nil | exact Dle.rc Dle.nil | exact Option.some_ne_none _ | exact Or.inl rfl | exact Or.inr trivial | omega | (simp only [Int.toNat_natCast] at *; omega) | (intro _ _ _ _; exact Dle.of_eq rfl) | refine And.intro ?_ ?_)⟩⟩, fun i hi => ?_⟩
    have hi2 : i ≤ a.length + b.length := hi
    have hpl : (pk (fun _ => true) (a ++ b) i).length ≤ i := pick_len _ _ i
    by_cases hlt : i < a.length + b.length
    · have hw := wt_memU (a ++ b) _ (getD_mem (a ++ b) .zero i (by omega))
      rw [wtL_app] at hw
      have ei : 0 + ((i : Int)).toNat = i := by rw [Nat.zero_add, Int.toNat_natCast]
      have hst : pk (fun _ => true) (a ++ b) (i + 1) = if (fstV (a ++ b) i && true) = true then pk (fun _ => true) (a ++ b) i ++ [(a ++ b).getD i .zero] else pk (fun _ => true) (a ++ b) i := rfl
      rw [Bool.and_true] at hst
      have hf : ∀ x, fstV (a ++ b) i = x → fstV (a ++ b) ((i : Int)).toNat = x := fun x h => by rw [Int.toNat_natCast]; exact h
      cases hfx : fstV (a ++ b) i
      · have hf := hf _ hfx
        rw [hfx, if_neg (by decide)] at hst
        have hl2 : (pk (fun _ => true) (a ++ b) (i + 1)).length = (pk (fun _ => true) (a ++ b) i).length := by rw [hst]
        repeat' first
          | (refine codeW_cond rfl ?_; first | (refine condW_dec ?_ ?_ <;> intro _ <;> try (exfalso; first | omega | exact Bool.noConfusion (hf.symm.trans (by assumption)))) | refine condW_not ?_ | (refine condW_bool ?_ ?_ <;> intro _ <;> try (exfalso; first | omega | exact Bool.noConfusion (hf.symm.trans (by assumption)))))
          | (refine facW_intro ?_; intro _)
          | refine Or.inl ?_
          | ((conv => whnf); first | (refine condW_dec ?_ ?_ <;> intro _ <;> try (exfalso; first | omega | exact Bool.noConfusion (hf.symm.trans (by assumption)))) | refine condW_not ?_ | (refine condW_bool ?_ ?_ <;> intro _ <;> try (exfalso; first | omega | exact Bool.noConfusion (hf.symm.trans (by assumption)))) | (refine nbC_t (fun _ => ?_) ?_) | (refine nbC_f ?_ (fun _ => ?_)))
          | refine And.intro (by first | omega | (simp only [Int.toNat_natCast] at *; omega) | (simp only [Nat.reduceAdd, Int.cast_ofNat_Int, true_and, and_true]; omega)  | kernel_rfl) ?_
          | refine RegW.run ?_
          | refine ⟨_, h1, ?_⟩
          | fail
        all_goals first
          | (exfalso; omega)
          | exact ⟨i + 1, hlt, ⟨[(24, some 24)], ⟨by kernel_rfl, by kernel_rfl, by kernel_rfl, by kernel_rfl, by kernel_rfl, by kernel_rfl, by kernel_rfl⟩, (by repeat' first | (exact hl2.symm) | exact trivial | exact rfl | kernel_rfl | exact Dle.of_eq rfl | exact MLe.of_eq rfl | exact Dle.i (by omega) | exact Dle.i (by simp only [Int.toNat_natCast] at *; omega) | exact Dle.nil | exact Dle.rc Dle.nil | exact Option.some_ne_none _ | exact Or.inl rfl | exact Or.inr trivial | omega | (simp only [Int.toNat_natCast] at *; omega) | (intro _ _ _ _; exact Dle.of_eq rfl) | (intro i j hi hj; (rw [hst]; exact Dle.refl _ _)) | refine And.intro ?_ ?_)⟩, by first | omega | (dsimp only; omega)⟩
          | trace_state
      · have hf := hf _ hfx
        rw [hfx, if_pos rfl] at hst
        have hl2 : (pk (fun _ => true) (a ++ b) (i + 1)).length = (pk (fun _ => true) (a ++ b) i).length + 1 := by rw [hst]; simp
        have c2 := lclone_sp E _ ((a ++ b).getD i .zero) (Nat.lt_succ_self _) (by omega)
        repeat' first
          | refine And.intro (show 0 ≤ (i : Int) ∧ (i : Int) < ((a.length + b.length : Nat) : Int) by omega) ?_
          | refine And.intro (show 0 + ((i : Int)).toNat < a.length + b.length by omega) ?_
          | refine partW_eq (ab_cells a b (0 + ((i : Int)).toNat) i ei) ?_
          | (refine codeW_cond rfl ?_; first | (refine condW_dec ?_ ?_ <;> intro _ <;> try (exfalso; first | omega | exact Bool.noConfusion (hf.symm.trans (by assumption)))) | refine condW_not ?_ | (refine condW_bool ?_ ?_ <;> intro _ <;> try (exfalso; first | omega | exact Bool.noConfusion (hf.symm.trans (by assumption)))))
          | (refine facW_intro ?_; intro _)
          | refine Or.inl ?_
          | ((conv => whnf); first | (refine condW_dec ?_ ?_ <;> intro _ <;> try (exfalso; first | omega | exact Bool.noConfusion (hf.symm.trans (by assumption)))) | refine condW_not ?_ | (refine condW_bool ?_ ?_ <;> intro _ <;> try (exfalso; first | omega | exact Bool.noConfusion (hf.symm.trans (by assumption)))) | (refine nbC_t (fun _ => ?_) ?_) | (refine nbC_f ?_ (fun _ => ?_)))
          | refine And.intro (by first | omega | (simp only [Int.toNat_natCast] at *; omega) | (simp only [Nat.reduceAdd, Int.cast_ofNat_Int, true_and, and_true]; omega)  | kernel_rfl) ?_
          | refine RegW.run ?_
          | refine ⟨_, c2, ?_⟩
          | fail
        all_goals first
          | (exfalso; omega)
          | exact ⟨i + 1, hlt, ⟨[(24, some 37)], ⟨by kernel_rfl, by kernel_rfl, by kernel_rfl, by kernel_rfl, by kernel_rfl, by kernel_rfl, by kernel_rfl⟩, (by repeat' first | (exact hl2.symm) | exact trivial | exact rfl | kernel_rfl | exact Dle.of_eq rfl | exact MLe.of_eq rfl | exact Dle.i (by omega) | exact Dle.i (by simp only [Int.toNat_natCast] at *; omega) | exact Dle.nil | exact Dle.rc Dle.nil | exact Option.some_ne_none _ | exact Or.inl rfl | exact Or.inr trivial | omega | (simp only [Int.toNat_natCast] at *; omega) | (intro _ _ _ _; exact Dle.of_eq rfl) | (intro i j hi hj; (rw [hst]; exact row_vl E _ _ i j hi hj)) | refine And.intro ?_ ?_)⟩, by first | omega | (dsimp only; omega)⟩
          | trace_state
    · have hin : i = (a ++ b).length := by omega
      repeat' first
        | (refine codeW_cond rfl ?_; first | (refine condW_dec ?_ ?_ <;> intro _ <;> try (exfalso; omega)) | refine condW_not ?_ | (refine condW_bool ?_ ?_ <;> intro _ <;> try (exfalso; omega)))
        | (refine facW_intro ?_; intro _)
        | refine Or.inl ?_
        | ((conv => whnf); first | (refine condW_dec ?_ ?_ <;> intro _ <;> try (exfalso; omega)) | refine condW_not ?_ | (refine condW_bool ?_ ?_ <;> intro _ <;> try (exfalso; omega)) | (refine nbC_t (fun _ => ?_) ?_) | (refine nbC_f ?_ (fun _ => ?_)))
        | refine And.intro (by first | omega | (simp only [Int.toNat_natCast] at *; omega) | (simp only [Nat.reduceAdd, Int.cast_ofNat_Int, true_and, and_true]; omega)  | kernel_rfl) ?_
        | refine RegW.run ?_
        | fail
      all_goals first
        | (exfalso; omega)
        | exact Dle.tup (X := (cx Tryz.prog mixed tyT_ok E)) ⟨Dle.rc (X := (cx Tryz.prog mixed tyT_ok E)) (Dle.sl (X := (cx Tryz.prog mixed tyT_ok E)) (by rw [hin]; rfl) (fun k j hk hj => by rw [hin]; exact Dle.refl _ _)), Dle.refl _ _, trivial⟩
        | trace_state
  · rw [if_neg he]
    refine Sp.body Tryz.func5 (by kernel_rfl) rfl (by kernel_rfl) (by kernel_rfl) (by kernel_rfl) ?_
    repeat' first
      | (refine codeW_cond rfl ?_; first | (refine condW_dec ?_ ?_ <;> intro _ <;> try (exfalso; omega)) | refine condW_not ?_ | (refine condW_bool ?_ ?_ <;> intro _ <;> try (exfalso; omega)))
      | (refine facW_intro ?_; intro _)
      | refine Or.inl ?_
      | ((conv => whnf); first | (refine condW_dec ?_ ?_ <;> intro _ <;> try (exfalso; omega)) | refine condW_not ?_ | (refine condW_bool ?_ ?_ <;> intro _ <;> try (exfalso; omega)) | (refine nbC_t (fun _ => ?_) ?_) | (refine nbC_f ?_ (fun _ => ?_)))
      | refine And.intro (by first | omega | (simp only [Int.toNat_natCast] at *; omega) | (simp only [Nat.reduceAdd, Int.cast_ofNat_Int, true_and, and_true]; omega)  | kernel_rfl) ?_
      | refine RegW.run ?_
      | refine ⟨_, h1, ?_⟩
      | fail
    all_goals first
      | exact Dle.tup (X := (cx Tryz.prog mixed tyT_ok E)) ⟨Dle.nil (X := (cx Tryz.prog mixed tyT_ok E)), Dle.refl _ _, trivial⟩
      | exact Dle.tup (X := (cx Tryz.prog mixed tyT_ok E)) ⟨Dle.rc (X := (cx Tryz.prog mixed tyT_ok E)) (Dle.nil (X := (cx Tryz.prog mixed tyT_ok E))), Dle.refl _ _, trivial⟩
      | trace_state
end
end rk
end Go.Proofs.YthoemnhigboahaaGreatDoor
namespace Go.Proofs.YthoemnhigboahaaGreatDoor
open Go.RowKit
set_option linter.unusedVariables false
set_option linter.unusedSimpArgs false
namespace rk
open sb sq
set_option maxHeartbeats 4000000 in
set_option maxRecDepth 100000 in
theorem grow_raw (n : Nat) (hn : n ≤ 1000000000) (w : World) :
    Calls Tryz.prog 25 #[.slice none 0 0, .int .i64 n] w fun e w' => (n = 0 ∧ e = .returned (.slice none 0 0) ∧ w' = w) ∨ ∃ c arr, e = .returned (.slice (some ⟨w.heap.size, 0, none⟩) 0 c) ∧ w' = w.drew.alloc (.cells arr 30) ∧ arr.size = c * 6 ∧ c ≤ maxLen := by
  have hneg : ¬ ((n : Int) < 0) := by omega
  have hw1 : IntKind.i64.wrap ((n : Int) - 0) = (n : Int) := by rw [IntKind.wrap_i64]; omega
  have hw0 : IntKind.i64.wrap ((n : Int)) = (n : Int) := by rw [IntKind.wrap_i64]; omega
  rcases Nat.eq_zero_or_pos n with rfl | h0
  · go_enter Tryz.func25, Tryz.ntmps25
    go_wp2
    go_ret
    exact .inl ⟨rfl, rfl⟩
  · obtain ⟨i0, hi0, hz, hs, hb⟩ : ∃ i0, Tryz.prog.info? 30 = some i0 ∧ i0.zero = some (.agg #[.int .i64 0, .bool false, .int .i64 0, .string ⟨#[]⟩, .slice none 0 0, .slice none 0 0]) ∧ i0.size = 6 ∧ i0.bytes = 88 := ⟨_, rfl, by kernel_rfl, by kernel_rfl, by kernel_rfl⟩
    have hpos : (0 : Int) < (n : Int) := by omega
    have hpn : ¬ ((n : Int) ≤ 0) := by omega
    have hne : ¬ ((n : Int) = 0) := by omega
    have hrz := fun (W : World) ty => Lib.run_append_nil_zeros (P := Tryz.prog) W 22 3 ty 30 i0 _ .i64 .i64 Tryz.underlying22 Tryz.underlying3 hi0 hz n h0 (by omega) (by omega) (by rw [hb]; omega)
    have hge := grownCap_ge w n 0 30
    have hmx := grownCap_le_maxLen w n 0 30 (by unfold maxLen; omega)
    have hsz : (Builtin.zeroCells (Value.cells (.agg #[.int .i64 0, .bool false, .int .i64 0, .string ⟨#[]⟩, .slice none 0 0, .slice none 0 0])) n ++ Builtin.zeroCells (Value.cells (.agg #[.int .i64 0, .bool false, .int .i64 0, .string ⟨#[]⟩, .slice none 0 0, .slice none 0 0])) (grownCap w n 0 30 - n)).size = grownCap w n 0 30 * 6 := by
      rw [Array.size_append, size_zeroCells, size_zeroCells, show (Value.cells (.agg #[.int .i64 0, .bool false, .int .i64 0, .string ⟨#[]⟩, .slice none 0 0, .slice none 0 0])).size = 6 by rfl]
      omega
    go_enter Tryz.func25, Tryz.ntmps25
    go_wp2_with (at_builtin; refine Lib.wpList_append_run _ rfl _ _ _ _ rfl _ _ rfl rfl _ _ (hrz _ _) ?_)
    go_wp2
    go_ret
    exact .inr ⟨_, rfl, _, rfl, hsz, hmx⟩
section
variable (E : Env)
set_option maxRecDepth 100000
theorem grow_l (n : Nat) (hn : n ≤ 1000000000) : SpH (cx Tryz.prog mixed tyT_ok E) 25 [.v (.slice none 0 0), i64 n] [] (.own 24 6 0 0) [(24, .row 30 0 (fun _ _ => .opq))] := by
  refine ⟨⟨_, _, Tryz.func25, by kernel_rfl, rfl⟩, fun M β w vs hG hMG hM hlv hr hH hbk => ?_⟩
  have evs : vs = #[.slice none 0 0, .int .i64 n] := by
    have hl : vs.size = 2 := hlv
    apply Array.ext
    · simpa using hl
    · intro k q1 q2
      have hk : k < 2 := by omega
      match k, hk with
      | 0, _ => simpa [Array.getD, q1] using (hr 0 _ rfl).val.1
      | 1, _ => simpa [Array.getD, q1] using (hr 1 _ rfl).val.1
  rw [evs]
  have hkn : (((cx Tryz.prog mixed tyT_ok E)).T 30).known = true := by kernel_rfl
  have hsz6 : (((cx Tryz.prog mixed tyT_ok E)).T 30).size = 6 := by kernel_rfl
  refine (grow_raw n hn w).mono ?_
  rintro e w' (⟨rfl, rfl, rfl⟩ | ⟨c, arr, rfl, rfl, hs, hc⟩)
  · refine ⟨_, M, upd β 24 none, rfl, Kp.refl _ _ _, fun l o hm => (by cases hm), fun _ _ h => h, fun _ _ h => .inl h, .ownNil (by unfold upd; simp), ⟨fun l o hm => ?_, fun l o l' o' b c c' hm hm' _ _ => ?_⟩, fun b ⟨l, o, c, hm, hb⟩ => ?_⟩
    · obtain ⟨rfl, rfl⟩ := Prod.mk.inj (List.mem_singleton.1 hm)
      exact ⟨rfl, hkn, .inl ⟨by unfold upd; simp, rfl⟩⟩
    · rw [(Prod.mk.inj (List.mem_singleton.1 hm)).1, (Prod.mk.inj (List.mem_singleton.1 hm')).1]
    · obtain ⟨rfl, rfl⟩ := Prod.mk.inj (List.mem_singleton.1 hm)
      exact absurd hb (by unfold upd; simp)
  · have hnew : (w.drew.alloc (.cells arr 30)).heap[w.heap.size]? = some (.cells arr 30 (0, 0)) := by
      show (w.heap.push _)[w.heap.size]? = _
      simp
    refine ⟨_, M, upd β 24 (some (w.heap.size, c)), rfl, Kp.of (((Below.refl _ w).drew).alloc (Nat.le_refl _) _) _, fun l o hm => (by cases hm), fun _ _ h => h, fun _ _ h => .inl h, ?_, ⟨fun l o hm => ?_, fun l o l' o' b c c' hm hm' _ _ => ?_⟩, fun b ⟨l, o, c', hm, hb⟩ => ?_⟩
    · have := Rep.own (V := view) (M := M) (w := w.drew.alloc (.cells arr 30)) (β := upd β 24 (some (w.heap.size, c))) (l := 24) (s := 6) (o := 0) (n := 0) (b := w.heap.size) (c := c) (by unfold upd; simp) (Nat.zero_le _) hc
      rw [Nat.zero_mul, Nat.sub_zero] at this
      exact this
    · obtain ⟨rfl, rfl⟩ := Prod.mk.inj (List.mem_singleton.1 hm)
      exact ⟨rfl, hkn, .inr ⟨w.heap.size, c, arr, by unfold upd; simp, hnew, by rw [hsz6]; exact hs, Nat.zero_le _, hc, by rw [Nat.zero_mul]; omega, fun i j hi => absurd hi (Nat.not_lt_zero i), fun q hq => absurd (hM _ _ hq) (Nat.lt_irrefl _)⟩⟩
    · rw [(Prod.mk.inj (List.mem_singleton.1 hm)).1, (Prod.mk.inj (List.mem_singleton.1 hm')).1]
    · obtain ⟨rfl, rfl⟩ := Prod.mk.inj (List.mem_singleton.1 hm)
      right
      unfold upd at hb
      simp at hb
      omega
end
end rk
end Go.Proofs.YthoemnhigboahaaGreatDoor
namespace Go.Proofs.YthoemnhigboahaaGreatDoor
open Go.RowKit
set_option linter.unusedVariables false
set_option linter.unusedSimpArgs false
namespace rk
open sb sq
def sz2 (a b : List Vu) (k : Nat) : Nat := ([0, a.length, a.length + b.length] : List Nat).getD k 0
section
variable (E : Env)
set_option maxRecDepth 100000
theorem ab_1 (a b : List Vu) (i j : Nat) (hi : i < a.length) : Dle (cx Tryz.prog mixed tyT_ok E) (if i < 0 then ((a ++ b).getD i .zero).cell j else (a.getD (i - 0 + 0) .zero).cell j) (((a ++ b).getD i .zero).cell j) := by
  rw [if_neg (Nat.not_lt_zero i), Nat.add_zero, Nat.sub_zero, show (a ++ b).getD i .zero = a.getD i .zero by rw [List.getD, List.getD, List.getElem?_append_left hi]]
  exact Dle.refl _ _
theorem ab_2 (a b : List Vu) (i j : Nat) (hi : i < a.length + b.length) : Dle (cx Tryz.prog mixed tyT_ok E) (if i < a.length then ((a ++ b).getD i .zero).cell j else (b.getD (i - a.length + 0) .zero).cell j) (((a ++ b).getD i .zero).cell j) := by
  by_cases h : i < a.length
  · rw [if_pos h]; exact Dle.refl _ _
  · rw [if_neg h, Nat.add_zero, show (a ++ b).getD i .zero = b.getD (i - a.length) .zero by rw [List.getD, List.getD, List.getElem?_append_right (by omega)]]
    exact Dle.refl _ _
set_option maxHeartbeats 8000000 in
theorem concat_sp (a b : List Vu) (ha : a.length ≤ 100000000) (hb : b.length ≤ 100000000) :
    Sp (cx Tryz.prog mixed tyT_ok E) 13 [.sl 1 24 2 (fun i j => ([.rc (.vals a), .rc (.vals b)] : List DD).getD (i * 1 + j) .opq)] (.rc (.vals (a ++ b))) := by
  have c1 := grow_l E (a.length + b.length) (by omega)
  have hs0 : sz2 a b 0 = 0 := rfl
  have hs1 : sz2 a b 1 = a.length := rfl
  have hs2 : sz2 a b 2 = a.length + b.length := rfl
  refine Sp.body Tryz.func13 (by kernel_rfl) rfl (by kernel_rfl) (by kernel_rfl) (by kernel_rfl) ?_
  repeat' first
    | (refine codeW_cond rfl ?_; first | (refine condW_dec ?_ ?_ <;> intro _ <;> try (exfalso; omega)) | refine condW_not ?_ | (refine condW_bool ?_ ?_ <;> intro _ <;> try (exfalso; omega)))
    | (refine facW_intro ?_; intro _)
    | refine Or.inl ?_
    | ((conv => whnf); first | (refine condW_dec ?_ ?_ <;> intro _ <;> try (exfalso; omega)) | refine condW_not ?_ | (refine condW_bool ?_ ?_ <;> intro _ <;> try (exfalso; omega)) | (refine nbC_t (fun _ => ?_) ?_) | (refine nbC_f ?_ (fun _ => ?_)))
    | refine And.intro (by first | omega | (simp only [Int.toNat_natCast] at *; omega) | (simp only [Nat.reduceAdd, Int.cast_ofNat_Int, true_and, and_true]; omega)  | (simp only [cx, view, Nat.reduceAdd, Int.toNat_natCast]; omega) | kernel_rfl) ?_
    | refine RegW.run ?_
    | fail
  refine ⟨Nat, fun k => [(11, i64 k), (3, i64 (sz2 a b k))], fun k => [], [], fun k => [], fun k => k ≤ 2, fun k => 2 - k, ⟨0, by omega, ⟨[], ⟨by kernel_rfl, by kernel_rfl, by kernel_rfl, by kernel_rfl, by kernel_rfl, by kernel_rfl, by kernel_rfl⟩, (by repeat' first | exact trivial | exact rfl | kernel_rfl | exact Dle.of_eq rfl | exact MLe.of_eq rfl | exact Dle.i (by omega) | exact Dle.i (by simp only [Int.toNat_natCast] at *; omega) | exact Dle.nil | exact Dle.rc Dle.nil | exact Option.some_ne_none _ | exact Or.inl rfl | exact Or.inr trivial | omega | (simp only [Int.toNat_natCast] at *; omega) | (intro _ _ _ _; exact Dle.of_eq rfl) | refine And.intro ?_ ?_)⟩⟩, fun k hk => ?_⟩
  have hk2 : k ≤ 2 := hk
  rcases (by omega : k = 0 ∨ k = 1 ∨ k = 2) with rfl | rfl | rfl
  · repeat' first
      | (refine codeW_cond rfl ?_; first | (refine condW_dec ?_ ?_ <;> intro _ <;> try (exfalso; omega)) | refine condW_not ?_ | (refine condW_bool ?_ ?_ <;> intro _ <;> try (exfalso; omega)))
      | (refine facW_intro ?_; intro _)
      | refine Or.inl ?_
      | ((conv => whnf); first | (refine condW_dec ?_ ?_ <;> intro _ <;> try (exfalso; omega)) | refine condW_not ?_ | (refine condW_bool ?_ ?_ <;> intro _ <;> try (exfalso; omega)) | (refine nbC_t (fun _ => ?_) ?_) | (refine nbC_f ?_ (fun _ => ?_)))
      | refine And.intro (by first | omega | (simp only [Int.toNat_natCast] at *; omega) | (simp only [Nat.reduceAdd, Int.cast_ofNat_Int, true_and, and_true]; omega)  | (simp only [cx, view, Nat.reduceAdd, Int.toNat_natCast]; omega) | kernel_rfl) ?_
      | refine RegW.run ?_
      | fail
    all_goals first
      | (exfalso; omega)
      | exact ⟨1, by omega, ⟨[], ⟨by kernel_rfl, by kernel_rfl, by kernel_rfl, by kernel_rfl, by kernel_rfl, by kernel_rfl, by kernel_rfl⟩, (by repeat' first | (first | exact Dle.i (by show _ = ((a.length : Nat) : Int); simp) | exact Dle.i (by omega)) | exact trivial | exact rfl | kernel_rfl | exact Dle.of_eq rfl | exact MLe.of_eq rfl | exact Dle.i (by omega) | exact Dle.i (by simp only [Int.toNat_natCast] at *; omega) | exact Dle.nil | exact Dle.rc Dle.nil | exact Option.some_ne_none _ | exact Or.inl rfl | exact Or.inr trivial | omega | (simp only [Int.toNat_natCast] at *; omega) | (intro _ _ _ _; exact Dle.of_eq rfl) | refine And.intro ?_ ?_)⟩, by first | omega | (dsimp only; omega)⟩
      | trace_state
  · repeat' first
      | (refine codeW_cond rfl ?_; first | (refine condW_dec ?_ ?_ <;> intro _ <;> try (exfalso; omega)) | refine condW_not ?_ | (refine condW_bool ?_ ?_ <;> intro _ <;> try (exfalso; omega)))
      | (refine facW_intro ?_; intro _)
      | refine Or.inl ?_
      | ((conv => whnf); first | (refine condW_dec ?_ ?_ <;> intro _ <;> try (exfalso; omega)) | refine condW_not ?_ | (refine condW_bool ?_ ?_ <;> intro _ <;> try (exfalso; omega)) | (refine nbC_t (fun _ => ?_) ?_) | (refine nbC_f ?_ (fun _ => ?_)))
      | refine And.intro (by first | omega | (simp only [Int.toNat_natCast] at *; omega) | (simp only [Nat.reduceAdd, Int.cast_ofNat_Int, true_and, and_true]; omega)  | (simp only [cx, view, Nat.reduceAdd, Int.toNat_natCast]; omega) | kernel_rfl) ?_
      | refine RegW.run ?_
      | fail
    all_goals first
      | (exfalso; omega)
      | exact ⟨2, by omega, ⟨[], ⟨by kernel_rfl, by kernel_rfl, by kernel_rfl, by kernel_rfl, by kernel_rfl, by kernel_rfl, by kernel_rfl⟩, (by repeat' first | (first | exact Dle.i (by show _ = ((a.length + b.length : Nat) : Int); simp [hs1]) | exact Dle.i (by omega)) | exact trivial | exact rfl | kernel_rfl | exact Dle.of_eq rfl | exact MLe.of_eq rfl | exact Dle.i (by omega) | exact Dle.i (by simp only [Int.toNat_natCast] at *; omega) | exact Dle.nil | exact Dle.rc Dle.nil | exact Option.some_ne_none _ | exact Or.inl rfl | exact Or.inr trivial | omega | (simp only [Int.toNat_natCast] at *; omega) | (intro _ _ _ _; exact Dle.of_eq rfl) | refine And.intro ?_ ?_)⟩, by first | omega | (dsimp only; omega)⟩
      | trace_state
  · repeat' first
      | refine Or.inr ⟨_, _, _, Or.inl (c1), by kernel_rfl, (by repeat' first | exact trivial | exact rfl | kernel_rfl | exact Dle.of_eq rfl | exact MLe.of_eq rfl | exact Dle.i (by omega) | exact Dle.i (by simp only [Int.toNat_natCast] at *; omega) | exact Dle.nil | exact Dle.rc Dle.nil | exact Option.some_ne_none _ | exact Or.inl rfl | exact Or.inr trivial | omega | (simp only [Int.toNat_natCast] at *; omega) | (intro _ _ _ _; exact Dle.of_eq rfl) | refine And.intro ?_ ?_), ?_⟩
      | (refine codeW_cond rfl ?_; first | (refine condW_dec ?_ ?_ <;> intro _ <;> try (exfalso; omega)) | refine condW_not ?_ | (refine condW_bool ?_ ?_ <;> intro _ <;> try (exfalso; omega)))
      | (refine facW_intro ?_; intro _)
      | refine Or.inl ?_
      | ((conv => whnf); first | (refine condW_dec ?_ ?_ <;> intro _ <;> try (exfalso; omega)) | refine condW_not ?_ | (refine condW_bool ?_ ?_ <;> intro _ <;> try (exfalso; omega)) | (refine nbC_t (fun _ => ?_) ?_) | (refine nbC_f ?_ (fun _ => ?_)))
      | refine And.intro (by first | omega | (simp only [Int.toNat_natCast] at *; omega) | (simp only [Nat.reduceAdd, Int.cast_ofNat_Int, true_and, and_true]; omega)  | (simp only [cx, view, Nat.reduceAdd, Int.toNat_natCast]; omega) | kernel_rfl) ?_
      | refine RegW.run ?_
      | fail
    refine ⟨Nat, fun k => [(27, i64 k), (6, .own 27 6 0 (sz2 a b k))], fun k => [], [], fun k => [(27, 30, sz2 a b k, fun i j => ((a ++ b).getD i .zero).cell j)], fun k => k ≤ 2, fun k => 2 - k, ⟨0, by omega, ⟨[(27, some 24)], ⟨by kernel_rfl, by kernel_rfl, by kernel_rfl, by kernel_rfl, by kernel_rfl, by kernel_rfl, by kernel_rfl⟩, (by repeat' first | (first | exact hs0 | exact hs0.symm | (intro i j hi hj; exact absurd hi (Nat.not_lt_zero i))) | exact trivial | exact rfl | kernel_rfl | exact Dle.of_eq rfl | exact MLe.of_eq rfl | exact Dle.i (by omega) | exact Dle.i (by simp only [Int.toNat_natCast] at *; omega) | exact Dle.nil | exact Dle.rc Dle.nil | exact Option.some_ne_none _ | exact Or.inl rfl | exact Or.inr trivial | omega | (simp only [Int.toNat_natCast] at *; omega) | (intro _ _ _ _; exact Dle.of_eq rfl) | refine And.intro ?_ ?_)⟩⟩, fun k hk => ?_⟩
    have hk2 : k ≤ 2 := hk
    rcases (by omega : k = 0 ∨ k = 1 ∨ k = 2) with rfl | rfl | rfl
    · repeat' first
        | refine And.intro (show sz2 a b 0 ≤ sz2 a b 0 ∧ (sz2 a b 0 + a.length) * 88 ≤ 140737488355328 by omega) ?_
        | (refine codeW_cond rfl ?_; first | (refine condW_dec ?_ ?_ <;> intro _ <;> try (exfalso; omega)) | refine condW_not ?_ | (refine condW_bool ?_ ?_ <;> intro _ <;> try (exfalso; omega)))
        | (refine facW_intro ?_; intro _)
        | refine Or.inl ?_
        | ((conv => whnf); first | (refine condW_dec ?_ ?_ <;> intro _ <;> try (exfalso; omega)) | refine condW_not ?_ | (refine condW_bool ?_ ?_ <;> intro _ <;> try (exfalso; omega)) | (refine nbC_t (fun _ => ?_) ?_) | (refine nbC_f ?_ (fun _ => ?_)))
        | refine And.intro (by first | omega | (simp only [Int.toNat_natCast] at *; omega) | (simp only [Nat.reduceAdd, Int.cast_ofNat_Int, true_and, and_true]; omega)  | (simp only [cx, view, Nat.reduceAdd, Int.toNat_natCast]; omega) | kernel_rfl) ?_
        | refine RegW.run ?_
        | fail
      all_goals first
        | (exfalso; omega)
        | exact ⟨1, by omega, ⟨[(27, some 33)], ⟨by kernel_rfl, by kernel_rfl, by kernel_rfl, by kernel_rfl, by kernel_rfl, by kernel_rfl, by kernel_rfl⟩, (by repeat' first | (exact (Nat.zero_add _)) | exact trivial | exact rfl | kernel_rfl | exact Dle.of_eq rfl | exact MLe.of_eq rfl | exact Dle.i (by omega) | exact Dle.i (by simp only [Int.toNat_natCast] at *; omega) | exact Dle.nil | exact Dle.rc Dle.nil | exact Option.some_ne_none _ | exact Or.inl rfl | exact Or.inr trivial | omega | (simp only [Int.toNat_natCast] at *; omega) | (intro _ _ _ _; exact Dle.of_eq rfl) | (intro i j hi hj; exact ab_1 E a b i j (by have h : i < 0 + a.length := hi; omega)) | refine And.intro ?_ ?_)⟩, by first | omega | (dsimp only; omega)⟩
        | trace_state
    · repeat' first
        | refine And.intro (show sz2 a b 1 ≤ sz2 a b 1 ∧ (sz2 a b 1 + b.length) * 88 ≤ 140737488355328 by omega) ?_
        | (refine codeW_cond rfl ?_; first | (refine condW_dec ?_ ?_ <;> intro _ <;> try (exfalso; omega)) | refine condW_not ?_ | (refine condW_bool ?_ ?_ <;> intro _ <;> try (exfalso; omega)))
        | (refine facW_intro ?_; intro _)
        | refine Or.inl ?_
        | ((conv => whnf); first | (refine condW_dec ?_ ?_ <;> intro _ <;> try (exfalso; omega)) | refine condW_not ?_ | (refine condW_bool ?_ ?_ <;> intro _ <;> try (exfalso; omega)) | (refine nbC_t (fun _ => ?_) ?_) | (refine nbC_f ?_ (fun _ => ?_)))
        | refine And.intro (by first | omega | (simp only [Int.toNat_natCast] at *; omega) | (simp only [Nat.reduceAdd, Int.cast_ofNat_Int, true_and, and_true]; omega)  | (simp only [cx, view, Nat.reduceAdd, Int.toNat_natCast]; omega) | kernel_rfl) ?_
        | refine RegW.run ?_
        | fail
      all_goals first
        | (exfalso; omega)
        | exact ⟨2, by omega, ⟨[(27, some 33)], ⟨by kernel_rfl, by kernel_rfl, by kernel_rfl, by kernel_rfl, by kernel_rfl, by kernel_rfl, by kernel_rfl⟩, (by repeat' first | (exact rfl) | exact trivial | exact rfl | kernel_rfl | exact Dle.of_eq rfl | exact MLe.of_eq rfl | exact Dle.i (by omega) | exact Dle.i (by simp only [Int.toNat_natCast] at *; omega) | exact Dle.nil | exact Dle.rc Dle.nil | exact Option.some_ne_none _ | exact Or.inl rfl | exact Or.inr trivial | omega | (simp only [Int.toNat_natCast] at *; omega) | (intro _ _ _ _; exact Dle.of_eq rfl) | (intro i j hi hj; exact ab_2 E a b i j (Nat.lt_of_lt_of_eq hi hs2)) | refine And.intro ?_ ?_)⟩, by first | omega | (dsimp only; omega)⟩
        | trace_state
    · repeat' first
        | (refine codeW_cond rfl ?_; first | (refine condW_dec ?_ ?_ <;> intro _ <;> try (exfalso; omega)) | refine condW_not ?_ | (refine condW_bool ?_ ?_ <;> intro _ <;> try (exfalso; omega)))
        | (refine facW_intro ?_; intro _)
        | refine Or.inl ?_
        | ((conv => whnf); first | (refine condW_dec ?_ ?_ <;> intro _ <;> try (exfalso; omega)) | refine condW_not ?_ | (refine condW_bool ?_ ?_ <;> intro _ <;> try (exfalso; omega)) | (refine nbC_t (fun _ => ?_) ?_) | (refine nbC_f ?_ (fun _ => ?_)))
        | refine And.intro (by first | omega | (simp only [Int.toNat_natCast] at *; omega) | (simp only [Nat.reduceAdd, Int.cast_ofNat_Int, true_and, and_true]; omega)  | (simp only [cx, view, Nat.reduceAdd, Int.toNat_natCast]; omega) | kernel_rfl) ?_
        | refine RegW.run ?_
        | fail
      all_goals first
        | (exfalso; omega)
        | exact Dle.rc (X := (cx Tryz.prog mixed tyT_ok E)) (Dle.sl (X := (cx Tryz.prog mixed tyT_ok E)) (show sz2 a b 2 = (a ++ b).length by rw [hs2, List.length_append]) (fun i j hi hj => Dle.refl _ _))
        | trace_state
end
end rk
end Go.Proofs.YthoemnhigboahaaGreatDoor
