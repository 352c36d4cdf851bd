/-
  Sorted keys and searches; numbers of routes: plain law. Searches of keys; conf.find, conf.clone. Routes: strings.Split, strconv.Atoi, strings.TrimPrefix by data; conf.isInteger, steps; the reference's digitsAlone, RouteParts. conf.steps; the reference's digitsAlone, RouteParts.
-/
import Derived.Test.YtocehfhhmljejaaGreatDoorN2
import Derived.Lib.AtoiAll
import Derived.Test.YtocehfhhmljejaaGreatDoorPV
import Derived.Test.YtocehfhhmljejaaGreatDoorQ8
import Derived.Test.YtocehfhhmljejaaGreatDoorQ7
import Derived.Lib.SplitLaws
import Derived.Lib.SmallJoins
namespace Go.Proofs.YtocehfhhmljejaaGreatDoor
open Go.RowKit
set_option linter.unusedVariables false

theorem toL_ext {a b : ByteArray} (h : a.toList = b.toList) : a = b := by
  cases a with | mk a => cases b with | mk b =>
    simp only [ByteArray.toList_eq] at h
    exact congrArg _ (Array.toList_inj.1 h)
theorem less_iff : ∀ a b : List UInt8, Op.bytesLess a b = true ↔ a < b
  | _, [] => by simp [Op.bytesLess]
  | [], _ :: _ => by simp [Op.bytesLess]
  | a :: x, b :: y => by
    rw [Op.bytesLess, List.cons_lt_cons_iff, ← less_iff x y]
    simp
theorem strLt_iff (a b : ByteArray) : strLt a b = true ↔ a.toList < b.toList := by unfold strLt; exact less_iff _ _
theorem strLt_trans {a b c : ByteArray} (h : strLt a b = true) (g : strLt b c = true) : strLt a c = true := by
  rw [strLt_iff] at *
  exact List.lt_trans h g
theorem strLt_irrefl (a : ByteArray) : strLt a a = false := by
  cases e : strLt a a
  · rfl
  · rw [strLt_iff] at e
    exact absurd e (List.lt_irrefl _)
theorem strLt_total {a b : ByteArray} (h : strLt a b = false) (g : a ≠ b) : strLt b a = true := by
  rw [strLt_iff]
  have h : ¬ a.toList < b.toList := fun e => by rw [(strLt_iff a b).2 e] at h; cases h
  rcases List.le_iff_lt_or_eq.1 (List.not_lt.1 h) with h | e
  · exact h
  · exact absurd (toL_ext e).symm g
def Srt (l : List ByteArray) : Prop := ∀ i j, i < j → j < l.length → strLt (l.getD i ⟨#[]⟩) (l.getD j ⟨#[]⟩) = true
theorem srt_of {l : List ByteArray} (h : ∀ k, 0 < k → k < l.length → strLt (l.getD (k - 1) ⟨#[]⟩) (l.getD k ⟨#[]⟩) = true) : Srt l := by
  intro i j hij hj
  induction j with
  | zero => omega
  | succ j ih =>
    have h1 := h (j + 1) (by omega) hj
    rcases Nat.lt_or_ge i j with h2 | h2
    · exact strLt_trans (ih h2 (by omega)) h1
    · obtain rfl : i = j := by omega
      exact h1
def bsr (l : List ByteArray) (x : ByteArray) (i j : Nat) : Nat :=
  if i < j then (if strLt (l.getD ((i + j) / 2) ⟨#[]⟩) x = true then bsr l x ((i + j) / 2 + 1) j else bsr l x i ((i + j) / 2)) else i
  termination_by j - i
theorem bsr_end {l : List ByteArray} {x : ByteArray} {i j : Nat} (h : ¬ i < j) : bsr l x i j = i := by rw [bsr, if_neg h]
theorem bsr_lt {l : List ByteArray} {x : ByteArray} {i j : Nat} (h : i < j) (g : strLt (l.getD ((i + j) / 2) ⟨#[]⟩) x = true) : bsr l x i j = bsr l x ((i + j) / 2 + 1) j := by rw [bsr, if_pos h, if_pos g]
theorem bsr_ge {l : List ByteArray} {x : ByteArray} {i j : Nat} (h : i < j) (g : strLt (l.getD ((i + j) / 2) ⟨#[]⟩) x = false) : bsr l x i j = bsr l x i ((i + j) / 2) := by rw [bsr, if_pos h, if_neg (by rw [g]; decide)]
theorem bsr_le (l : List ByteArray) (x : ByteArray) : ∀ (n i j : Nat), j - i < n → i ≤ j → i ≤ bsr l x i j ∧ bsr l x i j ≤ j
  | 0, i, j, h, _ => by omega
  | n + 1, i, j, h, hij => by
    rcases Nat.lt_or_ge i j with h1 | h1
    · cases e : strLt (l.getD ((i + j) / 2) ⟨#[]⟩) x
      · rw [bsr_ge h1 e]
        have := bsr_le l x n i ((i + j) / 2) (by omega) (by omega)
        omega
      · rw [bsr_lt h1 e]
        have := bsr_le l x n ((i + j) / 2 + 1) j (by omega) (by omega)
        omega
    · rw [bsr_end (by omega)]
      omega
theorem bsr_spec {l : List ByteArray} {x : ByteArray} (hs : Srt l) : ∀ (n i j : Nat), j - i < n → i ≤ j → j ≤ l.length → (∀ k, k < i → strLt (l.getD k ⟨#[]⟩) x = true) → (∀ k, j ≤ k → k < l.length → strLt (l.getD k ⟨#[]⟩) x = false) →
    (∀ k, k < bsr l x i j → strLt (l.getD k ⟨#[]⟩) x = true) ∧ (∀ k, bsr l x i j ≤ k → k < l.length → strLt (l.getD k ⟨#[]⟩) x = false)
  | 0, i, j, h, _, _, _, _ => by omega
  | n + 1, i, j, h, hij, hj, ha, hb => by
    rcases Nat.lt_or_ge i j with h1 | h1
    · cases e : strLt (l.getD ((i + j) / 2) ⟨#[]⟩) x
      · rw [bsr_ge h1 e]
        refine bsr_spec hs n i _ (by omega) (by omega) (by omega) ha (fun k hk hk2 => ?_)
        rcases Nat.lt_or_ge ((i + j) / 2) k with h2 | h2
        · cases e2 : strLt (l.getD k ⟨#[]⟩) x
          · rfl
          · rw [strLt_trans (hs _ _ h2 hk2) e2] at e
            cases e
        · obtain rfl : k = (i + j) / 2 := by omega
          exact e
      · rw [bsr_lt h1 e]
        refine bsr_spec hs n _ j (by omega) (by omega) hj (fun k hk => ?_) hb
        rcases Nat.lt_or_ge k ((i + j) / 2) with h2 | h2
        · exact strLt_trans (hs _ _ h2 (by omega)) e
        · obtain rfl : k = (i + j) / 2 := by omega
          exact e
    · rw [bsr_end (by omega)]
      exact ⟨ha, fun k hk hk2 => hb k (by omega) hk2⟩
theorem bsr_at {l : List ByteArray} {x : ByteArray} (hs : Srt l) {m : Nat} (hm : m < l.length) (hx : l.getD m ⟨#[]⟩ = x) : bsr l x 0 l.length = m := by
  obtain ⟨h1, h2⟩ := bsr_spec (x := x) hs (l.length + 1) 0 l.length (by omega) (by omega) (Nat.le_refl _) (fun k hk => by omega) (fun k hk hk2 => by omega)
  rcases Nat.lt_trichotomy (bsr l x 0 l.length) m with h | h | h
  · have h3 := h2 (bsr l x 0 l.length) (Nat.le_refl _) (by omega)
    have h4 := hs _ _ h hm
    rw [hx, h3] at h4
    cases h4
  · exact h
  · have h3 := h1 m h
    rw [hx, strLt_irrefl] at h3
    cases h3

end Go.Proofs.YtocehfhhmljejaaGreatDoor
namespace Go.Proofs.YtocehfhhmljejaaGreatDoor
open Go.RowKit
set_option linter.unusedVariables false
set_option linter.unusedSimpArgs false
theorem len_le_sum : ∀ l : List ByteArray, l.length ≤ (l.map fun s => s.size + 1).sum
  | [] => Nat.zero_le _
  | x :: r => by
    have := len_le_sum r
    simp only [List.length_cons, List.map_cons, List.sum_cons]
    omega
theorem keys_le_wt (v : Vu) : v.keys.length ≤ v.wt := by
  cases v with | mk k b i t l ks => have := len_le_sum ks; simp only [Vu.wt, Vu.keys]; omega
theorem wtL_le_wt (v : Vu) : Vu.wtL v.items + 1 ≤ v.wt := by
  cases v with | mk k b i t l ks => simp only [Vu.wt, Vu.items]; omega
theorem len_le_wtL : ∀ l : List Vu, l.length ≤ Vu.wtL l
  | [] => Nat.zero_le _
  | x :: r => by
    have := len_le_wtL r
    have := cnt_le_wt x
    have h : 1 ≤ cnt x := by rw [cnt_eq]; omega
    simp only [List.length_cons, Vu.wtL]
    omega
theorem wt_mem : ∀ (l : List Vu) (x : Vu), x ∈ l → x.wt ≤ Vu.wtL l
  | a :: l, x, h => by
    rcases List.mem_cons.1 h with rfl | h
    · simp [Vu.wtL]
    · have := wt_mem l x h; simp [Vu.wtL]; omega
def findK (v : Vu) (k : ByteArray) : Nat := bsr v.keys k 0 v.keys.length
def hasK (v : Vu) (k : ByteArray) : Bool := decide (findK v k < v.keys.length) && decide (v.keys.getD (findK v k) ⟨#[]⟩ = k)
section
variable (E : Env)
set_option maxRecDepth 100000
theorem searchLit_sp (l : List ByteArray) (x : ByteArray) (h : Nat) (hl : h < l.length) :
    Sp (cx Tryz.prog mixed tyT_ok E) 89 [i64 h, .ref 1 (fun j => ([encStrs l] : List DD).getD (0 + j) .opq), .ref 1 (fun j => ([dS x] : List DD).getD (0 + j) .opq)] (dB (!strLt (l.getD h ⟨#[]⟩) x)) := by
  refine Sp.body Tryz.func89 (by kernel_rfl) rfl (by kernel_rfl) (by kernel_rfl) (by kernel_rfl) ?_
  repeat' first
    | (refine facW_intro ?_; intro _)
    | refine Or.inl ?_
    | ((conv => whnf); first | (refine condW_dec ?_ ?_ <;> intro _) | refine condW_not ?_ | (refine condW_bool ?_ ?_ <;> intro _) | (refine nbC_t (fun _ => ?_) ?_) | (refine nbC_f ?_ (fun _ => ?_)))
    | refine And.intro (by first | omega | (simp only [Int.toNat_natCast] at *; omega) | (simp only [Nat.reduceAdd, Int.cast_ofNat_Int, true_and, and_true]; omega)  | kernel_rfl) ?_
    | refine RegW.run ?_
    | fail
  all_goals first
    | exact Dle.refl _ _
    | trace_state
theorem search_sp (l : List ByteArray) (x : ByteArray) (hl : l.length ≤ 1000000000000) :
    Sp (cx Tryz.prog mixed tyT_ok E) 88 [i64 l.length, .fn 89 [.ref 1 (fun j => ([encStrs l] : List DD).getD (0 + j) .opq), .ref 1 (fun j => ([dS x] : List DD).getD (0 + j) .opq)]] (i64 (bsr l x 0 l.length)) := by
  refine Sp.body Tryz.func88 (by kernel_rfl) rfl (by kernel_rfl) (by kernel_rfl) (by kernel_rfl) ?_
  refine ⟨Nat × Nat, fun k => [(5, i64 k.1), (6, i64 k.2)], fun k => [], [], fun k => [], fun k => k.1 ≤ k.2 ∧ k.2 ≤ l.length ∧ bsr l x 0 l.length = bsr l x k.1 k.2, fun k => k.2 - k.1, ⟨(0, l.length), ⟨by omega, by omega, rfl⟩, ⟨[], ⟨by kernel_rfl, by kernel_rfl, by kernel_rfl, by kernel_rfl, by kernel_rfl, by kernel_rfl, by kernel_rfl⟩, (by repeat' first | exact trivial | exact rfl | kernel_rfl | exact Dle.of_eq rfl | exact MLe.of_eq rfl | exact Dle.i (by omega) | exact Dle.i (by simp only [Int.toNat_natCast] at *; omega) | exact Dle.nil | exact Dle.rc Dle.nil | exact Option.some_ne_none _ | exact Or.inl rfl | exact Or.inr trivial | omega | (simp only [Int.toNat_natCast] at *; omega) | (intro _ _ _ _; exact Dle.of_eq rfl) | refine And.intro ?_ ?_)⟩⟩, fun k hk => ?_⟩
  obtain ⟨h1, h2, h3⟩ := hk
  have hh : (IntKind.u64.wrap ((k.1 : Int) + (k.2 : Int))).fdiv (2 ^ min (Int.toNat 1) IntKind.u64.bits) = (((k.1 + k.2) / 2 : Nat) : Int) := by
    have h4 : IntKind.u64.wrap ((k.1 : Int) + (k.2 : Int)) = (k.1 : Int) + (k.2 : Int) := by
      simp only [IntKind.wrap, IntKind.bits, IntKind.signed]
      simp
      omega
    rw [h4, show (2 : Int) ^ min (Int.toNat 1) IntKind.u64.bits = 2 by decide, Int.fdiv_eq_ediv_of_nonneg _ (by omega)]
    omega
  have h5 : IntKind.i64.wrap ((((k.1 + k.2) / 2 : Nat) : Int)) = (((k.1 + k.2) / 2 : Nat) : Int) := by
    simp only [IntKind.wrap, IntKind.bits, IntKind.signed]
    simp
    omega
  repeat' first
    | (refine facW_intro ?_; intro _)
    | refine Or.inl ?_
    | ((conv => whnf); first | (refine condW_dec ?_ ?_ <;> intro _) | refine condW_not ?_ | (refine condW_bool ?_ ?_ <;> intro _) | (refine nbC_t (fun _ => ?_) ?_) | (refine nbC_f ?_ (fun _ => ?_)))
    | refine And.intro (by first | omega | (simp only [Int.toNat_natCast] at *; omega) | (simp only [Nat.reduceAdd, Int.cast_ofNat_Int, true_and, and_true]; omega)  | kernel_rfl) ?_
    | refine RegW.run ?_
    | fail
  · (conv => whnf)
    rw [hh, h5]
    repeat' first
      | (refine facW_intro ?_; intro _)
      | refine Or.inl ?_
      | ((conv => whnf); first | (refine condW_dec ?_ ?_ <;> intro _) | refine condW_not ?_ | (refine condW_bool ?_ ?_ <;> intro _) | (refine nbC_t (fun _ => ?_) ?_) | (refine nbC_f ?_ (fun _ => ?_)))
      | refine And.intro (by first | omega | (simp only [Int.toNat_natCast] at *; omega) | (simp only [Nat.reduceAdd, Int.cast_ofNat_Int, true_and, and_true]; omega)  | kernel_rfl) ?_
      | refine RegW.run ?_
      | refine ⟨_, searchLit_sp E l x _ (by omega), ?_⟩
      | fail
    · rename_i h4
      exact ⟨((k.1 + k.2) / 2 + 1, k.2), ⟨by dsimp only; omega, h2, by rw [h3, bsr_lt (by omega) h4]⟩, ⟨[], ⟨by kernel_rfl, by kernel_rfl, by kernel_rfl, by kernel_rfl, by kernel_rfl, by kernel_rfl, by kernel_rfl⟩, (by repeat' first | exact trivial | exact rfl | kernel_rfl | exact Dle.of_eq rfl | exact MLe.of_eq rfl | exact Dle.i (by omega) | exact Dle.i (by simp only [Int.toNat_natCast] at *; omega) | exact Dle.nil | exact Dle.rc Dle.nil | exact Option.some_ne_none _ | exact Or.inl rfl | exact Or.inr trivial | omega | (simp only [Int.toNat_natCast] at *; omega) | (intro _ _ _ _; exact Dle.of_eq rfl) | refine And.intro ?_ ?_)⟩, by first | omega | (dsimp only; omega)⟩
    · rename_i h4
      exact ⟨(k.1, (k.1 + k.2) / 2), ⟨by dsimp only; omega, by dsimp only; omega, by rw [h3, bsr_ge (by omega) h4]⟩, ⟨[], ⟨by kernel_rfl, by kernel_rfl, by kernel_rfl, by kernel_rfl, by kernel_rfl, by kernel_rfl, by kernel_rfl⟩, (by repeat' first | exact trivial | exact rfl | kernel_rfl | exact Dle.of_eq rfl | exact MLe.of_eq rfl | exact Dle.i (by omega) | exact Dle.i (by simp only [Int.toNat_natCast] at *; omega) | exact Dle.nil | exact Dle.rc Dle.nil | exact Option.some_ne_none _ | exact Or.inl rfl | exact Or.inr trivial | omega | (simp only [Int.toNat_natCast] at *; omega) | (intro _ _ _ _; exact Dle.of_eq rfl) | refine And.intro ?_ ?_)⟩, by first | omega | (dsimp only; omega)⟩
  · exact Dle.i (by rw [h3, bsr_end (by omega)])
theorem searchStrings_sp (l : List ByteArray) (x : ByteArray) (hl : l.length ≤ 1000000000000) : Sp (cx Tryz.prog mixed tyT_ok E) 72 [encStrs l, dS x] (i64 (bsr l x 0 l.length)) := by
  refine Sp.body Tryz.func72 (by kernel_rfl) rfl (by kernel_rfl) (by kernel_rfl) (by kernel_rfl) ?_
  repeat' first
    | (refine facW_intro ?_; intro _)
    | refine Or.inl ?_
    | ((conv => whnf); first | (refine condW_dec ?_ ?_ <;> intro _) | refine condW_not ?_ | (refine condW_bool ?_ ?_ <;> intro _) | (refine nbC_t (fun _ => ?_) ?_) | (refine nbC_f ?_ (fun _ => ?_)))
    | refine And.intro (by first | omega | (simp only [Int.toNat_natCast] at *; omega) | (simp only [Nat.reduceAdd, Int.cast_ofNat_Int, true_and, and_true]; omega)  | kernel_rfl) ?_
    | refine RegW.run ?_
    | refine ⟨_, search_sp E l x hl, ?_⟩
    | fail
  all_goals first
    | exact Dle.refl _ _
    | trace_state
theorem find_sp (v : Vu) (k : ByteArray) (hb : v.keys.length ≤ 1000000000000) : Sp (cx Tryz.prog mixed tyT_ok E) 34 [encV v, dS k] (.tup [i64 (findK v k), dB (hasK v k)]) := by
  have h1 := bsr_le v.keys k (v.keys.length + 1) 0 v.keys.length (by omega) (by omega)
  have e : findK v k = bsr v.keys k 0 v.keys.length := rfl
  refine Sp.body Tryz.func34 (by kernel_rfl) rfl (by kernel_rfl) (by kernel_rfl) (by kernel_rfl) ?_
  repeat' first
    | (refine facW_intro ?_; intro _)
    | refine Or.inl ?_
    | ((conv => whnf); first | (refine condW_dec ?_ ?_ <;> intro _) | refine condW_not ?_ | (refine condW_bool ?_ ?_ <;> intro _) | (refine nbC_t (fun _ => ?_) ?_) | (refine nbC_f ?_ (fun _ => ?_)))
    | refine And.intro (by first | omega | (simp only [Int.toNat_natCast] at *; omega) | (simp only [Nat.reduceAdd, Int.cast_ofNat_Int, true_and, and_true]; omega)  | kernel_rfl) ?_
    | refine RegW.run ?_
    | refine ⟨_, searchStrings_sp E _ _ hb, ?_⟩
    | fail
  all_goals refine Dle.tup (X := (cx Tryz.prog mixed tyT_ok E)) ⟨Dle.refl _ _, Dle.bo ?_, trivial⟩
  · rename_i h
    unfold hasK
    rw [e, decide_eq_true (show bsr v.keys k 0 v.keys.length < v.keys.length by omega)]
    rfl
  · rename_i h
    unfold hasK
    rw [e, decide_eq_false (show ¬ bsr v.keys k 0 v.keys.length < v.keys.length by omega)]
    rfl
set_option maxHeartbeats 1000000 in
theorem clone_sp : ∀ (N : Nat) (v : Vu), SizeOf.sizeOf v < N → v.wt ≤ 1000000000000 → Sp (cx Tryz.prog mixed tyT_ok E) 32 [encV v] (encV v)
  | 0, v, h, _ => by omega
  | N + 1, v, h, hb => by
    have h1 := wtL_le_wt v
    have ih := fun x (hx : x ∈ v.items) => clone_sp N x (by have := items_lt v x hx; omega) (by have := wt_mem v.items x hx; omega)
    have hk := keys_le_wt v
    have hlen : v.items.length ≤ 1000000000000 := by have := len_le_wtL v.items; omega
    refine Sp.body Tryz.func32 (by kernel_rfl) rfl (by kernel_rfl) (by kernel_rfl) (by kernel_rfl) ?_
    repeat' first
      | (refine facW_intro ?_; intro _)
      | refine Or.inl ?_
      | ((conv => whnf); first | (refine condW_dec ?_ ?_ <;> intro _) | refine condW_not ?_ | (refine condW_bool ?_ ?_ <;> intro _) | (refine nbC_t (fun _ => ?_) ?_) | (refine nbC_f ?_ (fun _ => ?_)))
      | refine And.intro (by first | omega | (simp only [Int.toNat_natCast] at *; omega) | (simp only [Nat.reduceAdd, Int.cast_ofNat_Int, true_and, and_true]; omega)  | kernel_rfl) ?_
      | refine RegW.run ?_
      | fail
    refine ⟨Nat, fun k => [(13, i64 k), (3, .own 13 6 0 k)], fun k => [], [1, 2, 8], fun k => [(13, 25, k, fun i j => (v.items.getD i .zero).cell j)], fun k => k ≤ v.items.length, fun k => v.items.length - k, ⟨0, by omega, ⟨[(13, none)], ⟨by kernel_rfl, by kernel_rfl, by kernel_rfl, by kernel_rfl, by kernel_rfl, by kernel_rfl, by kernel_rfl⟩, (by repeat' first | exact trivial | exact rfl | kernel_rfl | exact Dle.of_eq rfl | exact MLe.of_eq rfl | exact Dle.i (by omega) | exact Dle.i (by simp only [Int.toNat_natCast] at *; omega) | exact Dle.nil | exact Dle.rc Dle.nil | exact Option.some_ne_none _ | exact Or.inl rfl | exact Or.inr trivial | omega | (simp only [Int.toNat_natCast] at *; omega) | (intro _ _ _ _; exact Dle.of_eq rfl) | refine And.intro ?_ ?_)⟩⟩, fun k hk => ?_⟩
    have hk : k ≤ v.items.length := hk
    repeat' first
      | (refine facW_intro ?_; intro _)
      | refine Or.inl ?_
      | ((conv => whnf); first | (refine condW_dec ?_ ?_ <;> intro _) | refine condW_not ?_ | (refine condW_bool ?_ ?_ <;> intro _) | (refine nbC_t (fun _ => ?_) ?_) | (refine nbC_f ?_ (fun _ => ?_)))
      | refine And.intro (by first | omega | (simp only [Int.toNat_natCast] at *; omega) | (simp only [Nat.reduceAdd, Int.cast_ofNat_Int, true_and, and_true]; omega)  | kernel_rfl) ?_
      | refine RegW.run ?_
      | refine ⟨_, ih _ (getD_mem v.items .zero k (by omega)), ?_⟩
      | fail
    · exact ⟨k + 1, by omega, ⟨[(13, some 21)], ⟨by kernel_rfl, by kernel_rfl, by kernel_rfl, by kernel_rfl, by kernel_rfl, by kernel_rfl, by kernel_rfl⟩, (by repeat' first | exact trivial | exact rfl | kernel_rfl | exact Dle.of_eq rfl | exact MLe.of_eq rfl | exact Dle.i (by omega) | exact Dle.i (by simp only [Int.toNat_natCast] at *; omega) | exact Dle.nil | exact Dle.rc Dle.nil | exact Option.some_ne_none _ | exact Or.inl rfl | exact Or.inr trivial | omega | (simp only [Int.toNat_natCast] at *; omega) | (intro _ _ _ _; exact Dle.of_eq rfl) | (intro i j hi hj; exact row_val E (fun i => v.items.getD i .zero) k i j hi hj) | refine And.intro ?_ ?_)⟩, by first | omega | (dsimp only; omega)⟩
    · have e : k = v.items.length := by omega
      subst e
      exact Dle.agg (X := (cx Tryz.prog mixed tyT_ok E)) ⟨Dle.refl _ _, Dle.refl _ _, Dle.refl _ _, Dle.refl _ _, Dle.rc (X := (cx Tryz.prog mixed tyT_ok E)) (Dle.sl (X := (cx Tryz.prog mixed tyT_ok E)) rfl (fun i j hi hj => Dle.refl _ _)), Dle.sl (X := (cx Tryz.prog mixed tyT_ok E)) rfl (fun i j hi hj => Dle.refl _ _), trivial⟩
end
end Go.Proofs.YtocehfhhmljejaaGreatDoor
namespace Go.Proofs.YtocehfhhmljejaaGreatDoor
open Go.RowKit
set_option linter.unusedVariables false
set_option linter.unusedSimpArgs false

def ML (w : World) : Prop := ∃ m : Int, w.cell? ⟨0, 0, none⟩ = some (.int .i64 m)
theorem ML.kp {w w' : World} (h : ML w) (hk : Kp (0 + 1) noS w w') : ML w' := by
  obtain ⟨m, h⟩ := h
  exact ⟨m, (hk.cell (Nat.lt_succ_self _) (fun h => h)).trans h⟩
theorem ML.lt {w : World} (h : ML w) : 0 + 1 ≤ w.heap.size := by
  obtain ⟨m, h⟩ := h
  exact World.block_lt_of_cell? w ⟨_, 0, none⟩ h
def pcs (s sep : ByteArray) : List ByteArray := Lib.splitB sep 0 (Lib.countB s sep) s
@[irreducible] def digs (s : ByteArray) : Bool := allN s.size (fun k => digitB (bAt s k))
@[irreducible] def indexB (p : ByteArray) : Bool := decide (0 < p.size) && decide (p.size ≤ 4) && digs p && (!decide (bAt p 0 = 48) || decide (p = ⟨#[48]⟩))
def unsigned (s : ByteArray) : ByteArray := ⟨(Lib.trimPrefix s.data.toList (⟨#[45]⟩ : ByteArray).data.toList).toArray⟩
def partOk (stars : Bool) (p : ByteArray) : Bool := keyOkB p || (stars && decide (p = ⟨#[42]⟩)) || indexB p
structure Stp where
  key : ByteArray
  number : Int
  star : Bool
instance : Inhabited Stp := ⟨⟨⟨#[]⟩, 0, false⟩⟩
def Stp.cell (s : Stp) (j : Nat) : DD :=
  match j with
  | 0 => dS s.key
  | 1 => i64 s.number
  | 2 => dB s.star
  | _ => .opq
@[irreducible] def routeOk (stars : Bool) (s : ByteArray) : Bool := decide (s.size ≤ 400) && (decide (s = ⟨#[]⟩) || (pcs s ⟨#[46]⟩).all (partOk stars))
@[irreducible] def partsR (s : ByteArray) : List ByteArray := if s = ⟨#[]⟩ then [] else pcs s ⟨#[46]⟩
section
variable (E : Env)
set_option maxRecDepth 100000
end
end Go.Proofs.YtocehfhhmljejaaGreatDoor
namespace Go.Proofs.YtocehfhhmljejaaGreatDoor
open Go.RowKit
set_option linter.unusedVariables false
set_option linter.unusedSimpArgs false
@[irreducible] def dgB (s : ByteArray) : Bool := decide (¬ s = ⟨#[]⟩) && digs s
theorem dgB_pos {s : ByteArray} (h : dgB s = true) : 0 < s.size := by
  unfold dgB at h
  simp at h
  exact str_pos h.1
section
variable (E : Env)
set_option maxRecDepth 100000
end
end Go.Proofs.YtocehfhhmljejaaGreatDoor
