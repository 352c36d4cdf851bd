/-
  slices.Index of a lent row of names; the reference's Step of a value whose rows are lent. Setting a value, plain: weights; what the reference's put needs.
-/
import Derived.Test.YtjbgafbijamckaaGreatDoorIn2
import Derived.Test.YtjbgafbijamckaaGreatDoorS6
import Derived.Test.YtjbgafbijamckaaGreatDoorSe1
import Derived.Test.YtjbgafbijamckaaGreatDoorRs0
import Derived.Test.YtjbgafbijamckaaGreatDoorCr1
namespace Go.Proofs.YtjbgafbijamckaaGreatDoor
open Go.RowKit
set_option linter.unusedVariables false
set_option linter.unusedSimpArgs false
namespace ins
open cr
section
variable (E : Env)
set_option maxRecDepth 100000
theorem idx0_sp (l : List ByteArray) (x : ByteArray) (hn : l.length ≤ 1000000000000) : SpH (cx Tryz.prog mixed tyT_ok E) 68 [.own 2000 1 0 l.length, dS x] [(2000, .row 9 l.length (rowK l))] (i64 (idxS l x 0)) [(2000, .row 9 l.length (rowK l))] := by
  obtain ⟨r, hr⟩ : ∃ r, r = idxS l x 0 := ⟨_, rfl⟩
  rw [← hr]
  refine SpH.body Tryz.func68 (by kernel_rfl) rfl (by kernel_rfl) (by kernel_rfl) (by kernel_rfl) ?_
  repeat' first
    | (refine codeW_cond rfl ?_; first | (refine condW_dec ?_ ?_ <;> intro _ <;> try (exfalso; omega)) | refine condW_not ?_ | (refine condW_bool ?_ ?_ <;> intro _ <;> try (exfalso; omega)))
    | (refine facW_intro ?_; intro _)
    | refine Or.inl ?_
    | ((conv => whnf); first | (refine condW_dec ?_ ?_ <;> intro _ <;> try (exfalso; omega)) | refine condW_not ?_ | (refine condW_bool ?_ ?_ <;> intro _ <;> try (exfalso; omega)) | (refine nbC_t (fun _ => ?_) ?_) | (refine nbC_f ?_ (fun _ => ?_)))
    | refine And.intro (by first | omega | (simp only [Int.toNat_natCast] at *; omega) | (simp only [Nat.reduceAdd, Int.cast_ofNat_Int, true_and, and_true]; omega)  | (simp only [cx, view, Nat.reduceAdd, Int.toNat_natCast]; omega) | kernel_rfl) ?_
    | refine RegW.run ?_
    | fail
  refine ⟨Nat, fun k => [(8, i64 k)], fun k => [], [2000], fun k => [], fun k => k ≤ l.length ∧ r = idxS l x k, fun k => l.length - k, ⟨0, ⟨by omega, hr⟩, ⟨[], ⟨by kernel_rfl, by kernel_rfl, by kernel_rfl, by kernel_rfl, by kernel_rfl, by kernel_rfl, by kernel_rfl⟩, (by repeat' first | exact trivial | exact rfl | kernel_rfl | exact Dle.of_eq rfl | exact MLe.of_eq rfl | exact Dle.i (by omega) | exact Dle.i (by simp only [Int.toNat_natCast] at *; omega) | exact Dle.nil | exact Dle.rc Dle.nil | exact Option.some_ne_none _ | exact Or.inl rfl | exact Or.inr trivial | omega | (simp only [Int.toNat_natCast] at *; omega) | (intro _ _ _ _; exact Dle.of_eq rfl) | refine And.intro ?_ ?_)⟩⟩, fun k hk => ?_⟩
  obtain ⟨hk, hK⟩ := hk
  repeat' first
    | (refine codeW_cond rfl ?_; first | (refine condW_dec ?_ ?_ <;> intro _ <;> try (exfalso; omega)) | refine condW_not ?_ | (refine condW_bool ?_ ?_ <;> intro _ <;> try (exfalso; omega)))
    | (refine facW_intro ?_; intro _)
    | refine Or.inl ?_
    | ((conv => whnf); first | (refine condW_dec ?_ ?_ <;> intro _ <;> try (exfalso; omega)) | refine condW_not ?_ | (refine condW_bool ?_ ?_ <;> intro _ <;> try (exfalso; omega)) | (refine nbC_t (fun _ => ?_) ?_) | (refine nbC_f ?_ (fun _ => ?_)))
    | refine And.intro (by first | omega | (simp only [Int.toNat_natCast] at *; omega) | (simp only [Nat.reduceAdd, Int.cast_ofNat_Int, true_and, and_true]; omega)  | (simp only [cx, view, Nat.reduceAdd, Int.toNat_natCast]; omega) | kernel_rfl) ?_
    | refine RegW.run ?_
    | fail
  all_goals try simp only [Nat.zero_add, Int.toNat_natCast] at *
  · rename_i q
    exact ⟨[(2000, .row 9 l.length (rowK l))], [], rfl, ⟨[], ⟨by kernel_rfl, by kernel_rfl, by kernel_rfl, by kernel_rfl, by kernel_rfl, by kernel_rfl, by kernel_rfl⟩, ⟨⟨rfl, Dle.i (by rw [hK, idxS_at (by omega) q])⟩, trivial⟩, (by repeat' first | exact trivial | exact rfl | kernel_rfl | exact Dle.of_eq rfl | exact MLe.of_eq rfl | exact Dle.i (by omega) | exact Dle.i (by simp only [Int.toNat_natCast] at *; omega) | exact Dle.nil | exact Dle.rc Dle.nil | exact Option.some_ne_none _ | exact Or.inl rfl | exact Or.inr trivial | omega | (simp only [Int.toNat_natCast] at *; omega) | (intro _ _ _ _; exact Dle.of_eq rfl) | refine And.intro ?_ ?_), trivial, trivial⟩, rfl⟩
  · rename_i q
    exact ⟨k + 1, ⟨by omega, by rw [hK, idxS_next (by omega) q]⟩, ⟨[], ⟨by kernel_rfl, by kernel_rfl, by kernel_rfl, by kernel_rfl, by kernel_rfl, by kernel_rfl, by kernel_rfl⟩, (by repeat' first | exact trivial | exact rfl | kernel_rfl | exact Dle.of_eq rfl | exact MLe.of_eq rfl | exact Dle.i (by omega) | exact Dle.i (by simp only [Int.toNat_natCast] at *; omega) | exact Dle.nil | exact Dle.rc Dle.nil | exact Option.some_ne_none _ | exact Or.inl rfl | exact Or.inr trivial | omega | (simp only [Int.toNat_natCast] at *; omega) | (intro _ _ _ _; exact Dle.of_eq rfl) | refine And.intro ?_ ?_)⟩, by first | omega | (dsimp only; omega)⟩
  · exact ⟨[(2000, .row 9 l.length (rowK l))], [], rfl, ⟨[], ⟨by kernel_rfl, by kernel_rfl, by kernel_rfl, by kernel_rfl, by kernel_rfl, by kernel_rfl, by kernel_rfl⟩, ⟨⟨rfl, Dle.i (by rw [hK, idxS_end (by omega)])⟩, trivial⟩, (by repeat' first | exact trivial | exact rfl | kernel_rfl | exact Dle.of_eq rfl | exact MLe.of_eq rfl | exact Dle.i (by omega) | exact Dle.i (by simp only [Int.toNat_natCast] at *; omega) | exact Dle.nil | exact Dle.rc Dle.nil | exact Option.some_ne_none _ | exact Or.inl rfl | exact Or.inr trivial | omega | (simp only [Int.toNat_natCast] at *; omega) | (intro _ _ _ _; exact Dle.of_eq rfl) | refine And.intro ?_ ?_), trivial, trivial⟩, rfl⟩
theorem idx_sp (L : Nat) (l : List ByteArray) (x : ByteArray) (hn : l.length ≤ 1000000000000) : SpH (cx Tryz.prog mixed tyT_ok E) 68 [.own L 1 0 l.length, dS x] [(L, .row 9 l.length (rowK l))] (i64 (idxS l x 0)) [(L, .row 9 l.length (rowK l))] := by
  have h := (idx0_sp E l x hn).swap 2000 L
  simpa only [D.renL, D.ren, renH, Ob.ren, swp_l] using h
set_option maxHeartbeats 1000000 in
theorem step0_sp (v : Vu) (F : Nat → Nat → DD) (p : ByteArray) (h : partOk false p = true) (hn : v.keys.length ≤ 1000000000000) : SpH (cx Tryz.prog mixed tyT_ok E) 48 [.agg [i64 v.kind, dB v.b, i64 v.i, dS v.text, .own 2001 6 0 v.items.length, .own 2000 1 0 v.keys.length], dS p] [(2000, .row 9 v.keys.length (rowK v.keys)), (2001, .row 25 v.items.length F)] (i64 (stepR v p)) [(2000, .row 9 v.keys.length (rowK v.keys)), (2001, .row 25 v.items.length F)] := by
  obtain ⟨hp, hc⟩ := part_cases h
  obtain ⟨r, hr⟩ : ∃ r, r = stepR v p := ⟨_, rfl⟩
  rw [← hr]
  unfold stepR at hr
  rcases hc with ⟨hk, hb⟩ | ⟨hk, hi, hb⟩
  · rw [if_pos hb] at hr
    have h1 := idx0_sp E v.keys p hn
    refine SpH.body Tryz.func48 (by kernel_rfl) rfl (by kernel_rfl) (by kernel_rfl) (by kernel_rfl) ?_
    repeat' first
      | refine Or.inr ⟨_, _, _, h1, by kernel_rfl, (by repeat' first | exact trivial | exact rfl | kernel_rfl | exact Dle.of_eq rfl | exact MLe.of_eq rfl | exact Dle.i (by omega) | exact Dle.i (by simp only [Int.toNat_natCast] at *; omega) | exact Dle.nil | exact Dle.rc Dle.nil | exact Option.some_ne_none _ | exact Or.inl rfl | exact Or.inr trivial | omega | (simp only [Int.toNat_natCast] at *; omega) | (intro _ _ _ _; exact Dle.of_eq rfl) | refine And.intro ?_ ?_), ?_⟩
      | (refine codeW_cond rfl ?_; first | (refine condW_dec ?_ ?_ <;> intro _ <;> try (exfalso; omega)) | refine condW_not ?_ | (refine condW_bool ?_ ?_ <;> intro _ <;> try (exfalso; omega)))
      | (refine facW_intro ?_; intro _)
      | refine Or.inl ?_
      | ((conv => whnf); first | (refine condW_dec ?_ ?_ <;> intro _ <;> try (exfalso; omega)) | refine condW_not ?_ | (refine condW_bool ?_ ?_ <;> intro _ <;> try (exfalso; omega)) | (refine nbC_t (fun _ => ?_) ?_) | (refine nbC_f ?_ (fun _ => ?_)))
      | refine And.intro (by first | omega | (simp only [Int.toNat_natCast] at *; omega) | (simp only [Nat.reduceAdd, Int.cast_ofNat_Int, true_and, and_true]; omega)  | (simp only [cx, view, Nat.reduceAdd, Int.toNat_natCast]; omega) | kernel_rfl) ?_
      | refine RegW.run ?_
      | fail
    all_goals simp only [Int.toNat_zero] at *
    all_goals first
      | (exfalso; omega)
      | exact ⟨[(2000, .row 9 v.keys.length (rowK v.keys)), (2001, .row 25 v.items.length F)], [], rfl, ⟨[], ⟨by kernel_rfl, by kernel_rfl, by kernel_rfl, by kernel_rfl, by kernel_rfl, by kernel_rfl, by kernel_rfl⟩, ⟨⟨rfl, Dle.i (by rw [hr]; grind)⟩, trivial⟩, (by repeat' first | exact trivial | exact rfl | kernel_rfl | exact Dle.of_eq rfl | exact MLe.of_eq rfl | exact Dle.i (by omega) | exact Dle.i (by simp only [Int.toNat_natCast] at *; omega) | exact Dle.nil | exact Dle.rc Dle.nil | exact Option.some_ne_none _ | exact Or.inl rfl | exact Or.inr trivial | omega | (simp only [Int.toNat_natCast] at *; omega) | (intro _ _ _ _; exact Dle.of_eq rfl) | refine And.intro ?_ ?_), trivial, trivial⟩, rfl⟩
      | trace_state
  · rw [if_neg (by omega)] at hr
    obtain ⟨hd, h4⟩ := idx_digs hi
    refine SpH.body Tryz.func48 (by kernel_rfl) rfl (by kernel_rfl) (by kernel_rfl) (by kernel_rfl) ?_
    repeat' first
      | (refine codeW_cond rfl ?_; first | (refine condW_dec ?_ ?_ <;> intro _ <;> try (exfalso; omega)) | refine condW_not ?_ | (refine condW_bool ?_ ?_ <;> intro _ <;> try (exfalso; omega)))
      | (refine facW_intro ?_; intro _)
      | refine Or.inl ?_
      | ((conv => whnf); first | (refine condW_dec ?_ ?_ <;> intro _ <;> try (exfalso; omega)) | refine condW_not ?_ | (refine condW_bool ?_ ?_ <;> intro _ <;> try (exfalso; omega)) | (refine nbC_t (fun _ => ?_) ?_) | (refine nbC_f ?_ (fun _ => ?_)))
      | refine And.intro (by first | omega | (simp only [Int.toNat_natCast] at *; omega) | (simp only [Nat.reduceAdd, Int.cast_ofNat_Int, true_and, and_true]; omega)  | (simp only [cx, view, Nat.reduceAdd, Int.toNat_natCast]; omega) | kernel_rfl) ?_
      | refine RegW.run ?_
      | refine ⟨_, atoi_sp E _ hd hp h4, ?_⟩
      | fail
    all_goals simp only [Int.toNat_zero] at *
    all_goals first
      | (exfalso; omega)
      | exact ⟨[(2000, .row 9 v.keys.length (rowK v.keys)), (2001, .row 25 v.items.length F)], [], rfl, ⟨[], ⟨by kernel_rfl, by kernel_rfl, by kernel_rfl, by kernel_rfl, by kernel_rfl, by kernel_rfl, by kernel_rfl⟩, ⟨⟨rfl, Dle.i (by rw [hr]; grind)⟩, trivial⟩, (by repeat' first | exact trivial | exact rfl | kernel_rfl | exact Dle.of_eq rfl | exact MLe.of_eq rfl | exact Dle.i (by omega) | exact Dle.i (by simp only [Int.toNat_natCast] at *; omega) | exact Dle.nil | exact Dle.rc Dle.nil | exact Option.some_ne_none _ | exact Or.inl rfl | exact Or.inr trivial | omega | (simp only [Int.toNat_natCast] at *; omega) | (intro _ _ _ _; exact Dle.of_eq rfl) | refine And.intro ?_ ?_), trivial, trivial⟩, rfl⟩
      | trace_state
theorem stepL_sp (a b : Nat) (hab : a ≠ b) (ha : a < 2000) (hb : b < 2000) (v : Vu) (F : Nat → Nat → DD) (p : ByteArray) (h : partOk false p = true) (hn : v.keys.length ≤ 1000000000000) : SpH (cx Tryz.prog mixed tyT_ok E) 48 [.agg [i64 v.kind, dB v.b, i64 v.i, dS v.text, .own a 6 0 v.items.length, .own b 1 0 v.keys.length], dS p] [(b, .row 9 v.keys.length (rowK v.keys)), (a, .row 25 v.items.length F)] (i64 (stepR v p)) [(b, .row 9 v.keys.length (rowK v.keys)), (a, .row 25 v.items.length F)] := by
  have h := ((step0_sp E v F p h hn).swap 2001 a).swap 2000 b
  simpa (disch := omega) only [D.renL, D.ren, renH, Ob.ren, swp_l, swp_o] using h
end
end ins
end Go.Proofs.YtjbgafbijamckaaGreatDoor
namespace Go.Proofs.YtjbgafbijamckaaGreatDoor
open Go.RowKit
set_option linter.unusedVariables false
set_option linter.unusedSimpArgs false
namespace se
open cr
/-- A list with one more at a place. -/
def insL {α : Type} (l : List α) (m : Nat) (y : α) : List α := l.take m ++ y :: l.drop m
theorem insL_len {α : Type} (l : List α) (m : Nat) (y : α) (hm : m ≤ l.length) : (insL l m y).length = l.length + 1 := by
  unfold insL
  rw [pl_len l y m m hm]
  omega
theorem insL_at {α : Type} (l : List α) (m i : Nat) (y d : α) (hm : m ≤ l.length) : (insL l m y).getD i d = if i < m then l.getD i d else if i = m then y else l.getD (i - 1) d := by
  unfold insL
  rw [pl_at l y m m i d hm]
  by_cases h : i < m
  · rw [if_pos h, if_pos h]
  · rw [if_neg h, if_neg h]
    by_cases h2 : i = m
    · rw [if_pos h2, if_pos h2]
    · rw [if_neg h2, if_neg h2, show i - (m + 1) + m = i - 1 by omega]
theorem pl_set {α : Type} : ∀ (l : List α) (m : Nat) (y : α), m < l.length → l.take m ++ y :: l.drop (m + 1) = l.set m y
  | [], m, y, h => by simp at h
  | x :: r, 0, y, _ => by simp
  | x :: r, m + 1, y, h => by
    have := pl_set r m y (by simpa using h)
    simp only [List.take_succ_cons, List.drop_succ_cons, List.set_cons_succ, List.cons_append, this]
theorem ins_set {α : Type} : ∀ (l : List α) (m : Nat) (z y : α), m ≤ l.length → (insL l m z).set m y = insL l m y
  | l, 0, z, y, _ => by simp [insL]
  | [], m + 1, z, y, h => by simp at h
  | x :: r, m + 1, z, y, h => by
    have := ins_set r m z y (by simpa using h)
    unfold insL at this ⊢
    simp only [List.take_succ_cons, List.drop_succ_cons, List.set_cons_succ, List.cons_append, this]
theorem set_self {α : Type} (l : List α) (m : Nat) (y d : α) (hm : m < l.length) (h : l.getD m d = y) : l.set m y = l := by
  apply List.ext_getElem?
  intro i
  rw [List.getElem?_set]
  by_cases e : m = i
  · subst e
    rw [if_pos rfl, if_pos hm, List.getElem?_eq_getElem hm]
    rw [List.getD_eq_getElem?_getD, List.getElem?_eq_getElem hm] at h
    rw [← h]
    rfl
  · rw [if_neg e]
theorem wtL_app : ∀ (a b : List Vu), Vu.wtL (a ++ b) = Vu.wtL a + Vu.wtL b
  | [], b => by simp [Vu.wtL]
  | x :: r, b => by
    have := wtL_app r b
    simp only [List.cons_append, Vu.wtL]
    omega
theorem wtL_pl : ∀ (l : List Vu) (m : Nat) (y : Vu), Vu.wtL (l.take m ++ y :: l.drop (m + 1)) + (l.getD m .zero).wt ≤ Vu.wtL l + y.wt + 1
  | [], m, y => by
    have : (Vu.zero).wt = 1 := rfl
    simp only [List.take_nil, List.drop_nil, List.nil_append, Vu.wtL, List.getD_nil]
    omega
  | x :: r, 0, y => by
    simp only [List.take_zero, List.drop_succ_cons, List.drop_zero, List.nil_append, Vu.wtL, List.getD_cons_zero]
    omega
  | x :: r, m + 1, y => by
    have := wtL_pl r m y
    simp only [List.take_succ_cons, List.drop_succ_cons, List.cons_append, Vu.wtL, List.getD_cons_succ]
    omega
theorem wtL_in (l : List Vu) (m : Nat) (y : Vu) : Vu.wtL (l.take m ++ y :: l.drop m) = Vu.wtL l + y.wt := by
  have h := wtL_app (l.take m) (l.drop m)
  rw [List.take_append_drop] at h
  rw [wtL_app, h]
  simp only [Vu.wtL]
  omega
def ksz (l : List ByteArray) : Nat := (l.map fun s => s.size + 1).sum
theorem ksz_app (a b : List ByteArray) : ksz (a ++ b) = ksz a + ksz b := by unfold ksz; rw [List.map_append, List.sum_append]
theorem ksz_in (l : List ByteArray) (m : Nat) (y : ByteArray) : ksz (l.take m ++ y :: l.drop m) = ksz l + y.size + 1 := by
  have h := ksz_app (l.take m) (l.drop m)
  rw [List.take_append_drop] at h
  rw [ksz_app, h]
  unfold ksz
  rw [List.map_cons, List.sum_cons]
  omega
theorem ksz_drop (l : List ByteArray) (m : Nat) : ksz (l.drop (m + 1)) ≤ ksz (l.drop m) := by
  rw [← List.tail_drop]
  cases l.drop m with
  | nil => exact Nat.le_refl _
  | cons a r =>
    show ksz r ≤ ksz (a :: r)
    unfold ksz
    rw [List.map_cons, List.sum_cons]
    omega
theorem ksz_pl (l : List ByteArray) (m : Nat) (y : ByteArray) : ksz (l.take m ++ y :: l.drop (m + 1)) ≤ ksz l + y.size + 1 := by
  have h := ksz_in l m y
  have h2 := ksz_drop l m
  rw [ksz_app] at h ⊢
  unfold ksz at *
  rw [List.map_cons, List.sum_cons] at h ⊢
  omega
theorem wt_set (l : List Vu) (m : Nat) (y : Vu) : Vu.wtL (l.set m y) + (l.getD m .zero).wt ≤ Vu.wtL l + y.wt + 1 := by
  rcases Nat.lt_or_ge m l.length with h | h
  · rw [← pl_set l m y h]
    exact wtL_pl l m y
  · have : (Vu.zero).wt = 1 := rfl
    rw [List.set_eq_of_length_le h, List.getD_eq_getElem?_getD, List.getElem?_eq_none h]
    show _ + (Vu.zero).wt ≤ _
    omega
theorem zero_wt : (Vu.zero).wt = 1 := rfl
theorem put_wt (u : Vu) (s : Stp) (y : Vu) (hk : u.kind = kindS s) (hs : s.ok) : (putAt u s y).wt + ((followS u s).getD .zero).wt ≤ u.wt + y.wt + s.key.size + 2 := by
  have e := wt_eq u
  have e2 : (u.keys.map fun s => s.size + 1).sum = ksz u.keys := rfl
  have z := zero_wt
  unfold putAt followS
  unfold Stp.ok at hs
  by_cases h : s.key = ⟨#[]⟩
  · rw [if_pos h, if_pos h]
    unfold kindS at hk
    rw [if_pos h] at hk
    by_cases h2 : s.number = (u.items.length : Int)
    · rw [if_pos h2, if_neg (fun h => by omega)]
      have h3 := wtL_app u.items [y]
      simp only [Vu.wt, Vu.wtL, Option.getD_none, List.map_nil, List.sum_nil, show (⟨#[]⟩ : ByteArray).size = 0 from rfl] at h3 ⊢
      omega
    · rw [if_neg h2]
      have h3 := wt_set u.items s.number.toNat y
      have h4 : ((if u.kind = 5 ∧ s.number < (u.items.length : Int) then some (u.items.getD s.number.toNat .zero) else none).getD .zero).wt ≤ (u.items.getD s.number.toNat .zero).wt := by
        split
        · exact Nat.le_refl _
        · rename_i h5
          have : u.items.length ≤ s.number.toNat := by omega
          rw [List.getD_eq_getElem?_getD, List.getElem?_eq_none this]
          exact Nat.le_refl _
      simp only [Vu.wt, List.map_nil, List.sum_nil, show (⟨#[]⟩ : ByteArray).size = 0 from rfl]
      omega
  · rw [if_neg h, if_neg h]
    unfold kindS at hk
    rw [if_neg h] at hk
    unfold putK
    cases hh : hasK u s.key with
    | true =>
      rw [if_pos ⟨hk, rfl⟩]
      have h3 := wtL_pl u.items (findK u s.key) y
      have h4 := ksz_pl u.keys (findK u s.key) s.key
      unfold ksz at h4 e2
      simp only [Vu.wt, Option.getD_some, cond_true, show (⟨#[]⟩ : ByteArray).size = 0 from rfl]
      omega
    | false =>
      rw [if_neg (fun h => by cases h.2)]
      have h3 := wtL_in u.items (findK u s.key) y
      have h4 := ksz_in u.keys (findK u s.key) s.key
      unfold ksz at h4 e2
      simp only [Vu.wt, Option.getD_none, cond_false, Nat.add_zero, show (⟨#[]⟩ : ByteArray).size = 0 from rfl]
      omega
/-- What the steps may add. -/
def stW (L : List Stp) : Nat := (L.map fun s => s.key.size + 2).sum
theorem wt_pos (v : Vu) : 1 ≤ v.wt := by rw [wt_eq]; omega
theorem asK_wt (v : Vu) (k : Int) : (asK v k).wt ≤ v.wt := by
  unfold asK
  split
  · have := wt_pos v
    exact this
  · exact Nat.le_refl _
theorem setS_wt : ∀ (L : List Stp) (v x : Vu), (∀ s ∈ L, s.ok) → (setS L v x).1.wt ≤ v.wt + x.wt + stW L
  | [], v, x, _ => by
    show x.wt ≤ _
    omega
  | s :: r, v, x, hs => by
    have hw := wt_pos v
    have hz := zero_wt
    have ha := asK_wt v (kindS s)
    have hst : stW (s :: r) = s.key.size + 2 + stW r := by unfold stW; rw [List.map_cons, List.sum_cons]
    unfold setS
    split
    · show (Vu.zero).wt ≤ _
      omega
    · rename_i h1
      split
      · show (Vu.zero).wt ≤ _
        omega
      · split
        · show (Vu.zero).wt ≤ _
          omega
        · have ih := setS_wt r ((followS (asK v (kindS s)) s).getD .zero) x (fun q hq => hs q (List.mem_cons_of_mem _ hq))
          have h2 := put_wt (asK v (kindS s)) s (setS r ((followS (asK v (kindS s)) s).getD .zero) x).1 (Classical.not_not.1 h1) (hs s List.mem_cons_self)
          show (putAt _ _ _).wt ≤ _
          omega
/-- A value without a fault has nothing beside what its kind uses. -/
theorem clean (v : Vu) (h : faultE v = 0) (hk : v.kind = 0 ∨ v.kind = 5 ∨ v.kind = 6) : v.b = false ∧ v.i = 0 ∧ v.text = ⟨#[]⟩ ∧ (v.kind ≠ 6 → v.keys = []) := by
  have hu := (head_ok (fault_head h).1).1
  unfold unusedP at hu
  refine ⟨?_, ?_, ?_, fun h6 => ?_⟩
  · cases hb : v.b with
    | false => rfl
    | true => exact absurd (.inl ⟨hb, by omega⟩) hu
  · exact Classical.byContradiction fun h => hu (.inr (.inl ⟨h, by omega, by omega⟩))
  · exact Classical.byContradiction fun h => hu (.inr (.inr (.inl ⟨h, by omega⟩)))
  · exact Classical.byContradiction fun h => hu (.inr (.inr (.inr (.inr (.inl ⟨List.length_pos_iff.2 h, h6⟩)))))
theorem has_in {v : Vu} {p : ByteArray} (hs : Srt v.keys) : ts.inK v.keys v.keys.length p = hasK v p := by
  unfold ts.inK
  cases h : hasK v p with
  | true =>
    have h1 := has_lt h
    have h2 : v.keys.getD (findK v p) ⟨#[]⟩ = p := by
      unfold hasK at h
      simp only [Bool.and_eq_true, decide_eq_true_eq] at h
      exact h.2
    rw [allN_no h1 (by rw [h2]; simp)]
    rfl
  | false =>
    have h3 : allN v.keys.length (fun i => decide (¬ v.keys.getD i ⟨#[]⟩ = p)) = true := allN_iff.2 fun k hk => by
      rw [decide_eq_true_eq]
      intro e
      rw [(rs.find_at hs hk e).2] at h
      cases h
    rw [h3]
    rfl
theorem idx_first {l : List ByteArray} {x : ByteArray} {m : Nat} (hm : m < l.length) (hx : x = l.getD m ⟨#[]⟩) (hn : ∀ i, i < m → ¬ x = l.getD i ⟨#[]⟩) : ∀ n k, m - k < n → k ≤ m → idxS l x k = m
  | 0, k, h, _ => by omega
  | n + 1, k, h, hk => by
    rcases Nat.lt_or_ge k m with h1 | h1
    · rw [idxS_next (by omega) (hn k h1)]
      exact idx_first hm hx hn n (k + 1) (by omega) h1
    · obtain rfl : k = m := by omega
      exact idxS_at hm hx
theorem find_le (v : Vu) (p : ByteArray) : findK v p ≤ v.keys.length := (bsr_le v.keys p (v.keys.length + 1) 0 v.keys.length (by omega) (by omega)).2
/-- The place of a key that was put into keys in order. -/
theorem idx_ins {v : Vu} {p : ByteArray} (hs : Srt v.keys) (h : hasK v p = false) : idxS (insL v.keys (findK v p) p) p 0 = (findK v p : Nat) := by
  have hm := find_le v p
  refine idx_first (m := findK v p) (by rw [insL_len _ _ _ hm]; omega) ?_ (fun i hi e => ?_) (findK v p + 1) 0 (by omega) (Nat.zero_le _)
  · rw [insL_at _ _ _ _ _ hm, if_neg (Nat.lt_irrefl _), if_pos rfl]
  · rw [insL_at _ _ _ _ _ hm, if_pos hi] at e
    rw [(rs.find_at hs (by omega) e.symm).2] at h
    cases h
theorem putK_yes0 (v : Vu) (p : ByteArray) (y : Vu) (hh : hasK v p = true) (hl : findK v p < v.items.length) : putK v p y = .mk 6 false 0 ⟨#[]⟩ (v.items.set (findK v p) y) v.keys := by
  have h1 := has_lt hh
  have h2 : v.keys.getD (findK v p) ⟨#[]⟩ = p := by
    unfold hasK at hh
    simp only [Bool.and_eq_true, decide_eq_true_eq] at hh
    exact hh.2
  unfold putK
  rw [hh, cond_true, pl_set _ _ _ hl, pl_set _ _ _ h1, set_self _ _ _ ⟨#[]⟩ h1 h2]
section
variable {κ : Type} {X : Cx κ}
/-- The one row that a call leaves may be told with less. -/
theorem SpH.row1 {f : FuncId} {ds : List (D κ)} {H : List (Nat × Ob κ)} {d : D κ} {c e n : Nat} {F G : Nat → Nat → D κ} (h : SpH X f ds H d [(c, .row e n F)]) (hg : ∀ i j, i < n → j < (X.T e).size → Dle X (F i j) (G i j)) : SpH X f ds H d [(c, .row e n G)] := by
  refine ⟨h.1, fun M β w vs hG hMG hM hl hr hp hb => (h.2 M β w vs hG hMG hM hl hr hp hb).mono fun e' w' ⟨x, M', β', hx, h1, h2, h3, h4, hr', ⟨h5, h6⟩, h7⟩ => ⟨x, M', β', hx, h1, h2, h3, h4, hr', ⟨fun l o hm => ?_, fun l o l' o' b c1 c2 hm hm' q1 q2 => ?_⟩, fun b hb2 => ?_⟩⟩
  · obtain ⟨rfl, rfl⟩ := Prod.mk.inj (List.mem_singleton.1 hm)
    obtain ⟨_, hk, ho⟩ := h5 _ _ List.mem_cons_self
    refine ⟨rfl, hk, ?_⟩
    rcases ho with ho | ⟨b, c, arr, a1, a2, a3, a4, a5, a6, a7, a8⟩
    · exact .inl ho
    · exact .inr ⟨b, c, arr, a1, a2, a3, a4, a5, a6, fun i j hi hj => ⟨(a7 i j hi hj).1, hg i j hi hj _ _ _ _ (a7 i j hi hj).2⟩, a8⟩
  · obtain ⟨rfl, rfl⟩ := Prod.mk.inj (List.mem_singleton.1 hm)
    obtain ⟨rfl, rfl⟩ := Prod.mk.inj (List.mem_singleton.1 hm')
    rfl
  · obtain ⟨l, o, c1, hm, hβ⟩ := hb2
    obtain ⟨rfl, rfl⟩ := Prod.mk.inj (List.mem_singleton.1 hm)
    exact h7 b ⟨_, _, c1, List.mem_cons_self, hβ⟩
end
section
variable (E : Env)
set_option maxRecDepth 100000
/-- Insert of one name into the names l, as data. -/
theorem insK_l (a b c : Nat) (hab : a ≠ b) (hac : a ≠ c) (hbc : b ≠ c) (ha : a < 2000) (hb : b < 2000) (hc : c < 2000) (l : List ByteArray) (p : ByteArray) (m : Nat) (hm : m ≤ l.length) (hl : l.length ≤ 1000000000000) : SpH (cx Tryz.prog mixed tyT_ok E) 46 [.own a 1 0 l.length, i64 m, .own b 1 0 1] [(a, .row 9 l.length (rowK l)), (b, .row 9 1 (fun i j => ([dS p] : List DD).getD (i * 1 + j) .opq))] (.own c 1 0 (insL l m p).length) [(c, .row 9 (insL l m p).length (rowK (insL l m p)))] := by
  rw [insL_len l m p hm]
  refine SpH.row1 (ins.insS_l E a b c hab hac hbc ha hb hc l.length m hm (by omega) (rowK l) _) (fun i j hi hj => ?_)
  have hj : j < 1 := hj
  obtain rfl : j = 0 := by omega
  refine Dle.of_eq ?_
  show (if i < m then dS (l.getD i ⟨#[]⟩) else if i = m then ([dS p] : List DD).getD (0 * 1 + 0) .opq else dS (l.getD (i - 1) ⟨#[]⟩)) = dS ((insL l m p).getD i ⟨#[]⟩)
  rw [insL_at l m i p _ hm]
  by_cases h1 : i < m
  · rw [if_pos h1, if_pos h1]
  · rw [if_neg h1, if_neg h1]
    by_cases h2 : i = m
    · rw [if_pos h2, if_pos h2]
      rfl
    · rw [if_neg h2, if_neg h2]
/-- Insert of the zero value into the values l, as data. -/
theorem insZ_l (a b c : Nat) (hab : a ≠ b) (hac : a ≠ c) (hbc : b ≠ c) (ha : a < 2000) (hb : b < 2000) (hc : c < 2000) (l : List Vu) (m : Nat) (hm : m ≤ l.length) (hl : l.length ≤ 1000000000000) : SpH (cx Tryz.prog mixed tyT_ok E) 47 [.own a 6 0 l.length, i64 m, .own b 6 0 1] [(a, .row 25 l.length (rowV l)), (b, .row 25 1 (fun i j => ([i64 0, dB false, i64 0, dS ⟨#[]⟩, .v (.slice none 0 0), .v (.slice none 0 0)] : List DD).getD (i * 6 + j) .opq))] (.own c 6 0 (insL l m .zero).length) [(c, .row 25 (insL l m .zero).length (rowV (insL l m .zero)))] := by
  rw [insL_len l m .zero hm]
  refine SpH.row1 (ins.insV_l E a b c hab hac hbc ha hb hc l.length m hm (by omega) (rowV l) _) (fun i j hi hj => ?_)
  have hj : j < 6 := hj
  show Dle (cx Tryz.prog mixed tyT_ok E) (if i < m then (l.getD i .zero).cell j else if i = m then ([i64 0, dB false, i64 0, dS ⟨#[]⟩, .v (.slice none 0 0), .v (.slice none 0 0)] : List DD).getD (0 * 6 + j) .opq else (l.getD (i - 1) .zero).cell j) (((insL l m .zero).getD i .zero).cell j)
  rw [insL_at l m i .zero _ hm]
  by_cases h1 : i < m
  · rw [if_pos h1, if_pos h1]
    exact Dle.refl _ _
  · rw [if_neg h1, if_neg h1]
    by_cases h2 : i = m
    · rw [if_pos h2, if_pos h2]
      match j, hj with
      | 0, _ => exact Dle.refl _ _
      | 1, _ => exact Dle.refl _ _
      | 2, _ => exact Dle.refl _ _
      | 3, _ => exact Dle.refl _ _
      | 4, _ => exact Dle.rc (X := (cx Tryz.prog mixed tyT_ok E)) (Dle.nil (X := (cx Tryz.prog mixed tyT_ok E)))
      | 5, _ => exact Dle.nil (X := (cx Tryz.prog mixed tyT_ok E))
    · rw [if_neg h2, if_neg h2]
      exact Dle.refl _ _
end
end se
end Go.Proofs.YtjbgafbijamckaaGreatDoor
