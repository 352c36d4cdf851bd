/-
  Routes of a value: what is reckoned; numbers as text; own rows of strings. conf.Routes.
-/
import Derived.Test.YtilfmjldcigagaaGreatDoorN18
import Derived.Test.YtilfmjldcigagaaGreatDoorPV
import Derived.Test.YtilfmjldcigagaaGreatDoorQ7
import Derived.Test.YtilfmjldcigagaaGreatDoorQ8
import Derived.Test.YtilfmjldcigagaaGreatDoorShelf
import Derived.Lib.AppendIntMem
import Derived.Lib.ItoaLen
import Derived.Test.YtilfmjldcigagaaGreatDoorS5
import Derived.Test.YtilfmjldcigagaaGreatDoorS6
namespace Go.Proofs.YtilfmjldcigagaaGreatDoor
open Go.RowKit
set_option linter.unusedVariables false
set_option linter.unusedSimpArgs false
/-- strconv.Itoa's table. -/
def P10 (w : World) : Prop := Lib.TabIs Tryz.prog w "internal/strconv.uint64pow10" .u64 Lib.pow10Tab
theorem P10.lt {w : World} (h : P10 w) : 7 + 1 ≤ w.heap.size := by
  unfold P10 Lib.TabIs World.var? at h
  rw [show Tryz.prog.globalNamed "internal/strconv.uint64pow10" = some 7 by kernel_rfl] at h
  simp only [Option.bind_some] at h
  rcases Nat.lt_or_ge 7 w.heap.size with h' | h'
  · exact h'
  · simp [Array.getElem?_eq_none h'] at h
theorem P10.kp {B : Nat} {w w' : World} (h : P10 w) (hB : 7 < B) (hk : Kp B noS w w') : P10 w' := by
  unfold P10 Lib.TabIs World.var? at h ⊢
  rw [show Tryz.prog.globalNamed "internal/strconv.uint64pow10" = some 7 by kernel_rfl] at h ⊢
  simp only [Option.bind_some] at h ⊢
  rw [hk.block _ hB (fun h => h)]
  exact h
def decS (n : Int) : ByteArray := ⟨(Lib.itoa n).toArray⟩
theorem decS_size (n : Int) (h0 : -9223372036854775808 ≤ n) (h1 : n ≤ 9223372036854775807) : (decS n).size ≤ 21 := by
  have := Lib.itoa_length_le n h0 h1
  simpa [decS, ByteArray.size] using this
theorem decS_small {n : Nat} (h : n ≤ 1000000) : (decS n).size ≤ 21 := decS_size n (by omega) (by omega)
/-- A row of strings as data. -/
def rowS (a : List ByteArray) (i _ : Nat) : DD := dS (a.getD i ⟨#[]⟩)
theorem rowS_app (a b : List ByteArray) (i j : Nat) : (if i < a.length then rowS a i j else rowS b (i - a.length) j) = rowS (a ++ b) i j := by
  unfold rowS
  split
  · rename_i h; simp [List.getD, List.getElem?_append_left h]
  · rename_i h; simp [List.getD, List.getElem?_append_right (Nat.le_of_not_lt h)]
theorem encStrs_row (a : List ByteArray) : encStrs a = .sl 1 16 a.length (rowS a) := rfl
/-- A route with one more part. -/
def joinR (r p : ByteArray) : ByteArray := if r = ⟨#[]⟩ then p else r ++ ⟨#[46]⟩ ++ p
def partK (k : Int) (ks : List ByteArray) (i : Nat) : ByteArray := if k = 6 then ks.getD i ⟨#[]⟩ else decS i
mutual
def rts : Vu → ByteArray → List ByteArray
  | .mk k _ _ _ l ks, r => if l.length = 0 then [r] else rtsL k ks l 0 r
def rtsL (k : Int) (ks : List ByteArray) : List Vu → Nat → ByteArray → List ByteArray
  | [], _, _ => []
  | x :: l, i, r => rts x (joinR r (partK k ks i)) ++ rtsL k ks l (i + 1) r
end
theorem rts_eq (v : Vu) (r : ByteArray) : rts v r = if v.items.length = 0 then [r] else rtsL v.kind v.keys v.items 0 r := by
  cases v; simp only [rts, Vu.items, Vu.kind, Vu.keys] <;> rfl
/-- The routes through the first i items. -/
def rtsP (v : Vu) (r : ByteArray) : Nat → List ByteArray
  | 0 => []
  | i + 1 => rtsP v r i ++ rts (v.items.getD i .zero) (joinR r (partK v.kind v.keys i))
theorem rtsP_rest (v : Vu) (r : ByteArray) : ∀ i, i ≤ v.items.length → rtsP v r i ++ rtsL v.kind v.keys (v.items.drop i) i r = rtsL v.kind v.keys v.items 0 r
  | 0, _ => by simp [rtsP]
  | i + 1, h => by
    have ih := rtsP_rest v r i (by omega)
    rw [drop_cons v.items .zero i (by omega), rtsL] at ih
    rw [rtsP, List.append_assoc]
    exact ih
theorem rtsP_all (v : Vu) (r : ByteArray) (h : ¬ v.items.length = 0) : rtsP v r v.items.length = rts v r := by
  have := rtsP_rest v r v.items.length (Nat.le_refl _)
  rw [List.drop_of_length_le (Nat.le_refl _)] at this
  rw [rts_eq, if_neg h, ← this, rtsL, List.append_nil]
mutual
theorem rts_len : ∀ (v : Vu) (r : ByteArray), (rts v r).length ≤ cnt v
  | .mk k b i t l ks, r => by
    rw [rts_eq, cnt_eq]
    have := rtsL_len k ks l 0 r
    show (if l.length = 0 then [r] else rtsL k ks l 0 r).length ≤ cntL l + 1
    by_cases h : l.length = 0
    · rw [if_pos h]; simp
    · rw [if_neg h]; omega
theorem rtsL_len (k : Int) (ks : List ByteArray) : ∀ (l : List Vu) (i : Nat) (r : ByteArray), (rtsL k ks l i r).length ≤ cntL l
  | [], _, _ => by simp [rtsL]
  | x :: l, i, r => by
    have h1 := rts_len x (joinR r (partK k ks i))
    have h2 := rtsL_len k ks l (i + 1) r
    simp only [rtsL, List.length_append, cntL]
    omega
end
theorem rtsP_len (v : Vu) (r : ByteArray) : ∀ i, i ≤ v.items.length → (rtsP v r i).length ≤ cntL (v.items.take i)
  | 0, _ => by simp [rtsP, cntL]
  | i + 1, h => by
    have ih := rtsP_len v r i (by omega)
    have h1 := rts_len (v.items.getD i .zero) (joinR r (partK v.kind v.keys i))
    rw [take_snoc v.items .zero i (by omega), cntL_app, rtsP, List.length_append]
    omega
theorem joinR_size (r p : ByteArray) : (joinR r p).size ≤ r.size + 1 + p.size := by
  unfold joinR
  split
  · omega
  · rw [ByteArray.size_append, ByteArray.size_append]
    show r.size + 1 + p.size ≤ _
    omega
theorem partK_size {k : Int} {ks : List ByteArray} {i n : Nat} (hi : i ≤ 1000000) (hk : ∀ s ∈ ks, s.size ≤ n) (hn : 21 ≤ n) : (partK k ks i).size ≤ n := by
  unfold partK
  split
  · rcases Nat.lt_or_ge i ks.length with h | h
    · exact hk _ (getD_mem ks ⟨#[]⟩ i h)
    · have : ks.getD i ⟨#[]⟩ = ⟨#[]⟩ := by simp [List.getD, List.getElem?_eq_none h]
      rw [this]
      exact Nat.zero_le _
  · have := decS_small hi
    omega
section
variable (E : Env)
set_option maxRecDepth 100000
theorem itoa_sp (hP : ∀ w, E.G w → P10 w) (n : Int) : Sp (cx Tryz.prog mixed tyT_ok E) 122 [i64 n] (dS (decS n)) ∨ ¬ (-9223372036854775808 ≤ n ∧ n ≤ 9223372036854775807) := by
  by_cases h : -9223372036854775808 ≤ n ∧ n ≤ 9223372036854775807
  · refine .inl (Sp.of_v (vs := [.int .i64 n]) ⟨_, _, Tryz.func122, by kernel_rfl, rfl⟩ ?_ (fun w hG => (Tryz.strconv_Itoa n h.1 h.2 w (hP w hG)).mono fun e w' ⟨he, k, os, hw⟩ => ⟨he, by subst hw; exact Lib.below_grow _ w (Nat.le_refl _) k os⟩))
    have := decS_size n h.1 h.2
    exact decide_eq_true (by show (decS n).size ≤ _; unfold maxLen; omega)
  · exact .inr h
theorem itoaN_sp (hP : ∀ w, E.G w → P10 w) (n : Nat) (hn : n ≤ 1000000) : Sp (cx Tryz.prog mixed tyT_ok E) 122 [i64 n] (dS (decS n)) := (itoa_sp E hP n).resolve_right (fun h => h ⟨by omega, by omega⟩)
theorem row_strA (a : List ByteArray) (r : ByteArray) (i j : Nat) (hi : i < a.length + 1) (hj : j < 1) : Dle (cx Tryz.prog mixed tyT_ok E) (if i < a.length then rowS a i j else ([dS r] : List DD).getD ((i - a.length + 0) * 1 + j) .opq) (rowS (a ++ [r]) i j) := by
  obtain rfl : j = 0 := by omega
  split
  · rename_i h
    refine Dle.of_eq ?_
    unfold rowS
    simp [List.getD, List.getElem?_append_left h]
  · obtain rfl : i = a.length := by omega
    rw [Nat.sub_self]
    refine Dle.of_eq ?_
    unfold rowS
    simp [List.getD]
end
end Go.Proofs.YtilfmjldcigagaaGreatDoor
namespace Go.Proofs.YtilfmjldcigagaaGreatDoor
open Go.RowKit
set_option linter.unusedVariables false
set_option linter.unusedSimpArgs false
theorem sum_key : ∀ (ks : List ByteArray) (s : ByteArray), s ∈ ks → s.size + 1 ≤ (ks.map fun s => s.size + 1).sum
  | k :: ks, s, h => by
    simp only [List.map_cons, List.sum_cons]
    rcases List.mem_cons.1 h with rfl | h
    · omega
    · have := sum_key ks s h; omega
theorem wt_memR : ∀ (l : List Vu) (x : Vu), x ∈ l → x.wt ≤ Vu.wtL l
  | y :: l, x, h => by
    simp only [Vu.wtL]
    rcases List.mem_cons.1 h with rfl | h
    · omega
    · have := wt_memR l x h; omega
theorem wt_child {v x : Vu} (h : x ∈ v.items) : x.wt + 1 + (v.keys.map fun s => s.size + 1).sum ≤ v.wt := by
  have := wt_memR _ x h
  cases v with
  | mk k b i t l ks =>
    simp only [Vu.wt, Vu.items, Vu.keys] at *
    omega
theorem part_wt {v : Vu} {i : Nat} (hi : i ≤ 1000000) : (partK v.kind v.keys i).size ≤ 21 + (v.keys.map fun s => s.size + 1).sum :=
  partK_size hi (fun s hs => by have := sum_key v.keys s hs; omega) (by omega)
section
variable (E : Env)
set_option maxRecDepth 100000
theorem joined_sp (r p : ByteArray) (h : r.size + p.size ≤ 1000000000000000) : Sp (cx Tryz.prog mixed tyT_ok E) 95 [dS r, dS p] (dS (joinR r p)) := by
  have h1 : (r ++ ⟨#[46]⟩).size = r.size + 1 := by rw [ByteArray.size_append]; rfl
  have h2 : (⟨#[46]⟩ : ByteArray).size = 1 := rfl
  refine Sp.body Tryz.func95 (by kernel_rfl) rfl (by kernel_rfl) (by kernel_rfl) (by kernel_rfl) ?_
  repeat' first
    | (refine facW_intro ?_; intro _)
    | refine Or.inl ?_
    | ((conv => whnf); first | (refine condW_dec ?_ ?_ <;> intro _ <;> try (exfalso; omega)) | refine condW_not ?_ | (refine condW_bool ?_ ?_ <;> intro _ <;> try (exfalso; omega)) | (refine nbC_t (fun _ => ?_) ?_) | (refine nbC_f ?_ (fun _ => ?_)))
    | refine And.intro (by first | omega | (simp only [Int.toNat_natCast] at *; omega) | (simp only [Nat.reduceAdd, Int.cast_ofNat_Int, true_and, and_true]; omega) | kernel_rfl) ?_
    | refine RegW.run ?_
    | fail
  all_goals first
    | exact Dle.s (by unfold joinR; rw [if_pos (by assumption)])
    | exact Dle.s (by unfold joinR; rw [if_neg (by assumption)])
    | trace_state
theorem part_sp (hP : ∀ w, E.G w → P10 w) (v : Vu) (i : Nat) (hi : i < v.items.length) (hk : v.kind = 6 → v.keys.length = v.items.length) (hb : i ≤ 1000000) : Sp (cx Tryz.prog mixed tyT_ok E) 96 [encV v, i64 i] (dS (partK v.kind v.keys i)) := by
  have h1 := itoaN_sp E hP i hb
  refine Sp.body Tryz.func96 (by kernel_rfl) rfl (by kernel_rfl) (by kernel_rfl) (by kernel_rfl) ?_
  repeat' first
    | (refine facW_intro ?_; intro _)
    | refine Or.inl ?_
    | ((conv => whnf); first | (refine condW_dec ?_ ?_ <;> intro _ <;> try (exfalso; omega)) | refine condW_not ?_ | (refine condW_bool ?_ ?_ <;> intro _ <;> try (exfalso; omega)) | (refine nbC_t (fun _ => ?_) ?_) | (refine nbC_f ?_ (fun _ => ?_)))
    | refine And.intro (by first | omega | (simp only [Int.toNat_natCast] at *; omega) | (simp only [Nat.reduceAdd, Int.cast_ofNat_Int, true_and, and_true]; omega) | kernel_rfl) ?_
    | refine RegW.run ?_
    | refine ⟨_, h1, ?_⟩
    | fail
  all_goals first
    | exact Dle.s (by unfold partK; rw [if_pos (by assumption)]; rfl)
    | exact Dle.s (by unfold partK; rw [if_neg (by assumption)])
    | trace_state
set_option maxHeartbeats 4000000 in
theorem routes_any (hP : ∀ w, E.G w → P10 w) : ∀ (N : Nat) (v : Vu) (r : ByteArray) (a : List ByteArray) (A B : Nat), A ≠ B → SizeOf.sizeOf v < N → faultE v = 0 → v.items.length ≤ 1000000 → cnt v ≤ 1000000 → r.size + 100 * v.wt ≤ 100000000000 → a.length + cnt v ≤ 1000000000 →
    SpH (cx Tryz.prog mixed tyT_ok E) 44 [.own A 1 0 a.length, encV v, dS r] [(A, .row 9 a.length (rowS a))] (.own B 1 0 (a ++ rts v r).length) [(B, .row 9 (a ++ rts v r).length (rowS (a ++ rts v r)))]
  | 0, v, r, a, A, B, _, h, _, _, _, _, _ => by omega
  | N + 1, v, r, a, A, B, hAB, h, hf, hil, hc, hw, hb => by
    have ih := fun x (hx : x ∈ v.items) r' (a' : List ByteArray) A B hAB hx2 => routes_any hP N x r' a' A B hAB (by have := items_lt v x hx; omega) hx2
    have hkl := (fault_keys hf).2
    suffices hs : SpH (cx Tryz.prog mixed tyT_ok E) 44 [.own 2000 1 0 a.length, encV v, dS r] [(2000, .row 9 a.length (rowS a))] (.own 16 1 0 (a ++ rts v r).length) [(16, .row 9 (a ++ rts v r).length (rowS (a ++ rts v r)))] by
      have h2 := hs.to2 2000 16 A B
      simpa only [D.renL, D.ren, renH, Ob.ren, ren2_l (show (2000 : Nat) ≠ 16 by decide) hAB, ren2_r, encV, encStrs] using h2
    have hwv : v.wt ≤ 1000000000 := by omega
    by_cases h0 : v.items.length = 0
    · have e : rts v r = [r] := by rw [rts_eq, if_pos h0]
      rw [e]
      have hl2 : (a ++ [r]).length = a.length + 1 := by simp
      refine SpH.body Tryz.func44 (by kernel_rfl) rfl (by kernel_rfl) (by kernel_rfl) (by kernel_rfl) ?_
      repeat' first
        | (refine facW_intro ?_; intro _)
        | refine Or.inl ?_
        | ((conv => whnf); first | (refine condW_dec ?_ ?_ <;> intro _ <;> try (exfalso; omega)) | refine condW_not ?_ | (refine condW_bool ?_ ?_ <;> intro _ <;> try (exfalso; omega)) | (refine nbC_t (fun _ => ?_) ?_) | (refine nbC_f ?_ (fun _ => ?_)))
        | refine And.intro (by first | omega | (simp only [Int.toNat_natCast] at *; omega) | (simp only [Nat.reduceAdd, Int.cast_ofNat_Int, true_and, and_true]; omega) | kernel_rfl) ?_
        | refine RegW.run ?_
        | fail
      all_goals first
        | exact ⟨[], [(16, 9, (a ++ [r]).length, rowS (a ++ [r]))], rfl, ⟨[(16, some 16)], ⟨by kernel_rfl, by kernel_rfl, by kernel_rfl, by kernel_rfl, by kernel_rfl, by kernel_rfl, by kernel_rfl⟩, (by repeat' first | (exact hl2.symm) | exact trivial | exact rfl | kernel_rfl | exact Dle.of_eq rfl | exact MLe.of_eq rfl | exact Dle.i (by omega) | exact Dle.i (by simp only [Int.toNat_natCast] at *; omega) | exact Dle.nil | exact Dle.rc Dle.nil | exact Option.some_ne_none _ | exact Or.inl rfl | exact Or.inr trivial | omega | (simp only [Int.toNat_natCast] at *; omega) | (intro _ _ _ _; exact Dle.of_eq rfl) | (intro i j hi hj; exact row_strA E a r i j (by omega) hj) | refine And.intro ?_ ?_)⟩, rfl⟩
        | trace_state
    · have hz0 : a ++ rtsP v r 0 = a := List.append_nil a
      have hz : a.length = (a ++ rtsP v r 0).length := by rw [hz0]
      refine SpH.body Tryz.func44 (by kernel_rfl) rfl (by kernel_rfl) (by kernel_rfl) (by kernel_rfl) ?_
      repeat' first
        | (refine facW_intro ?_; intro _)
        | refine Or.inl ?_
        | ((conv => whnf); first | (refine condW_dec ?_ ?_ <;> intro _ <;> try (exfalso; omega)) | refine condW_not ?_ | (refine condW_bool ?_ ?_ <;> intro _ <;> try (exfalso; omega)) | (refine nbC_t (fun _ => ?_) ?_) | (refine nbC_f ?_ (fun _ => ?_)))
        | refine And.intro (by first | omega | (simp only [Int.toNat_natCast] at *; omega) | (simp only [Nat.reduceAdd, Int.cast_ofNat_Int, true_and, and_true]; omega) | kernel_rfl) ?_
        | refine RegW.run ?_
        | fail
      refine ⟨Nat, fun k => [(20, i64 k), (0, .own 20 1 0 (a ++ rtsP v r k).length)], fun k => [], [4], fun k => [(20, 9, (a ++ rtsP v r k).length, rowS (a ++ rtsP v r k))], fun k => k ≤ v.items.length, fun k => v.items.length - k, ⟨0, by omega, ⟨[(20, some 2000)], ⟨by kernel_rfl, by kernel_rfl, by kernel_rfl, by kernel_rfl, by kernel_rfl, by kernel_rfl, by kernel_rfl⟩, (by repeat' first | ((first | exact hz | (intro i j hi hj; exact Dle.of_eq (by rw [hz0])))) | exact trivial | exact rfl | kernel_rfl | exact Dle.of_eq rfl | exact MLe.of_eq rfl | exact Dle.i (by omega) | exact Dle.i (by simp only [Int.toNat_natCast] at *; omega) | exact Dle.nil | exact Dle.rc Dle.nil | exact Option.some_ne_none _ | exact Or.inl rfl | exact Or.inr trivial | omega | (simp only [Int.toNat_natCast] at *; omega) | (intro _ _ _ _; exact Dle.of_eq rfl) | refine And.intro ?_ ?_)⟩⟩, fun k hk => ?_⟩
      have hk : k ≤ v.items.length := hk
      by_cases hlt : k < v.items.length
      · have hm := getD_mem v.items .zero k hlt
        have g1 := wt_child hm
        have g2 := cnt_mem v.items _ hm
        have g3 := len_le_cntL (v.items.getD k .zero).items
        have g4 := cnt_eq (v.items.getD k .zero)
        have g5 := cnt_eq v
        have g6 := part_wt (v := v) (i := k) (by omega)
        have g7 := joinR_size r (partK v.kind v.keys k)
        have g8 := rtsP_len v r k hk
        have g9 := cntL_take v.items (k + 1)
        rw [take_snoc v.items .zero k hlt, cntL_app] at g9
        have hl3 : (a ++ rtsP v r k).length = a.length + (rtsP v r k).length := List.length_append
        have h1 := part_sp E hP v k hlt hkl (by omega)
        have h2 := joined_sp E r (partK v.kind v.keys k) (by omega)
        have h3 := ih _ hm (joinR r (partK v.kind v.keys k)) (a ++ rtsP v r k) 20 32 (by decide) (fault_mem hf hlt) (by omega) (by omega) (by omega) (by omega)
        have e2 : a ++ rtsP v r (k + 1) = (a ++ rtsP v r k) ++ rts (v.items.getD k .zero) (joinR r (partK v.kind v.keys k)) := by rw [rtsP, List.append_assoc]
        have e3 := (congrArg List.length e2).symm
        repeat' first
          | refine Or.inr ⟨_, _, _, h3, by kernel_rfl, (by repeat' first | exact trivial | exact rfl | kernel_rfl | exact Dle.of_eq rfl | exact MLe.of_eq rfl | exact Dle.i (by omega) | exact Dle.i (by simp only [Int.toNat_natCast] at *; omega) | exact Dle.nil | exact Dle.rc Dle.nil | exact Option.some_ne_none _ | exact Or.inl rfl | exact Or.inr trivial | omega | (simp only [Int.toNat_natCast] at *; omega) | (intro _ _ _ _; exact Dle.of_eq rfl) | refine And.intro ?_ ?_), ?_⟩
          | (refine facW_intro ?_; intro _)
          | refine Or.inl ?_
          | ((conv => whnf); first | (refine condW_dec ?_ ?_ <;> intro _ <;> try (exfalso; omega)) | refine condW_not ?_ | (refine condW_bool ?_ ?_ <;> intro _ <;> try (exfalso; omega)) | (refine nbC_t (fun _ => ?_) ?_) | (refine nbC_f ?_ (fun _ => ?_)))
          | refine And.intro (by first | omega | (simp only [Int.toNat_natCast] at *; omega) | (simp only [Nat.reduceAdd, Int.cast_ofNat_Int, true_and, and_true]; omega) | kernel_rfl) ?_
          | refine RegW.run ?_
          | refine ⟨_, h1, ?_⟩
          | refine ⟨_, h2, ?_⟩
          | fail
        all_goals first
          | exact ⟨k + 1, by omega, ⟨[(20, some 32)], ⟨by kernel_rfl, by kernel_rfl, by kernel_rfl, by kernel_rfl, by kernel_rfl, by kernel_rfl, by kernel_rfl⟩, (by repeat' first | (exact e3) | exact trivial | exact rfl | kernel_rfl | exact Dle.of_eq rfl | exact MLe.of_eq rfl | exact Dle.i (by omega) | exact Dle.i (by simp only [Int.toNat_natCast] at *; omega) | exact Dle.nil | exact Dle.rc Dle.nil | exact Option.some_ne_none _ | exact Or.inl rfl | exact Or.inr trivial | omega | (simp only [Int.toNat_natCast] at *; omega) | (intro _ _ _ _; exact Dle.of_eq rfl) | (intro i j hi hj; (rw [e2]; exact Dle.refl _ _)) | refine And.intro ?_ ?_)⟩, by first | omega | (dsimp only; omega)⟩
          | trace_state
      · have e : k = v.items.length := by omega
        subst e
        have e4 := rtsP_all v r h0
        have e5 : (a ++ rtsP v r v.items.length).length = (a ++ rts v r).length := by rw [e4]
        repeat' first
          | (refine facW_intro ?_; intro _)
          | refine Or.inl ?_
          | ((conv => whnf); first | (refine condW_dec ?_ ?_ <;> intro _ <;> try (exfalso; omega)) | refine condW_not ?_ | (refine condW_bool ?_ ?_ <;> intro _ <;> try (exfalso; omega)) | (refine nbC_t (fun _ => ?_) ?_) | (refine nbC_f ?_ (fun _ => ?_)))
          | refine And.intro (by first | omega | (simp only [Int.toNat_natCast] at *; omega) | (simp only [Nat.reduceAdd, Int.cast_ofNat_Int, true_and, and_true]; omega) | kernel_rfl) ?_
          | refine RegW.run ?_
          | fail
        all_goals first
          | exact ⟨[], [(16, 9, (a ++ rts v r).length, rowS (a ++ rts v r))], rfl, ⟨[(16, some 20)], ⟨by kernel_rfl, by kernel_rfl, by kernel_rfl, by kernel_rfl, by kernel_rfl, by kernel_rfl, by kernel_rfl⟩, (by repeat' first | (exact e5) | exact trivial | exact rfl | kernel_rfl | exact Dle.of_eq rfl | exact MLe.of_eq rfl | exact Dle.i (by omega) | exact Dle.i (by simp only [Int.toNat_natCast] at *; omega) | exact Dle.nil | exact Dle.rc Dle.nil | exact Option.some_ne_none _ | exact Or.inl rfl | exact Or.inr trivial | omega | (simp only [Int.toNat_natCast] at *; omega) | (intro _ _ _ _; exact Dle.of_eq rfl) | (intro i j hi hj; (rw [e4]; exact Dle.refl _ _)) | refine And.intro ?_ ?_)⟩, rfl⟩
          | trace_state
end
end Go.Proofs.YtilfmjldcigagaaGreatDoor
