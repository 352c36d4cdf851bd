/-
  A value without the item to which a route leads: the program's remove. conf.put: a table with an item of a key more, or another one. Schemas as data; what is wrong with a field; stars in routes; routes that came before. What a schema's value must be, and what is read from it: the plain law. A value without the item to which a route leads: what Remove answers; the program's Remove. conf.set, plain: what it gives. Strings among strings. Setting a value, plain: weights; what the reference's put needs. What is put or taken away leaves no fault, plain.
-/
import Derived.Test.YtocehfhhmljejaaGreatDoorS6
import Derived.Test.YtocehfhhmljejaaGreatDoorN18
import Derived.Test.YtocehfhhmljejaaGreatDoorS3
import Derived.Test.YtocehfhhmljejaaGreatDoorS5
namespace Go.Proofs.YtocehfhhmljejaaGreatDoor
open Go.RowKit
set_option linter.unusedVariables false
set_option linter.unusedSimpArgs false
namespace cr
theorem set_at {α : Type} (l : List α) (d y : α) (m i : Nat) (hm : m < l.length) : (l.set m y).getD i d = if i = m then y else l.getD i d := by
  simp only [List.getD, List.getElem?_set]
  by_cases h : m = i
  · subst h
    rw [if_pos rfl, if_pos hm, if_pos rfl]
    rfl
  · rw [if_neg h, if_neg (fun e => h e.symm)]
section
variable (E : Env)
set_option maxRecDepth 100000
end
end cr
end Go.Proofs.YtocehfhhmljejaaGreatDoor
namespace Go.Proofs.YtocehfhhmljejaaGreatDoor
open Go.RowKit
set_option linter.unusedVariables false
set_option linter.unusedSimpArgs false
namespace se
open cr
def putK (v : Vu) (key : ByteArray) (y : Vu) : Vu :=
  .mk 6 false 0 ⟨#[]⟩ (v.items.take (findK v key) ++ y :: v.items.drop (findK v key + cond (hasK v key) 1 0)) (v.keys.take (findK v key) ++ key :: v.keys.drop (findK v key + cond (hasK v key) 1 0))
theorem pl_at {α : Type} (l : List α) (y : α) (m k i : Nat) (d : α) (hm : m ≤ l.length) : (l.take m ++ y :: l.drop k).getD i d = if i < m then l.getD i d else if i = m then y else l.getD (i - (m + 1) + k) d := by
  simp only [List.getD_eq_getElem?_getD]
  by_cases h : i < m
  · rw [List.getElem?_append_left (by rw [List.length_take]; omega), List.getElem?_take_of_lt h, if_pos h]
  · rw [if_neg h, List.getElem?_append_right (by rw [List.length_take]; omega), List.length_take, Nat.min_eq_left hm]
    by_cases h2 : i = m
    · subst h2
      rw [if_pos rfl, Nat.sub_self]
      rfl
    · rw [if_neg h2, show i - m = (i - (m + 1)) + 1 by omega, List.getElem?_cons_succ, List.getElem?_drop, Nat.add_comm k]
theorem pl_len {α : Type} (l : List α) (y : α) (m k : Nat) (hm : m ≤ l.length) : (l.take m ++ y :: l.drop k).length = m + 1 + (l.length - k) := by
  simp only [List.length_append, List.length_take, List.length_cons, List.length_drop]
  omega
section
variable (E : Env)
set_option maxRecDepth 100000
theorem row_put (l : List Vu) (y : Vu) (m k n : Nat) (g : Nat → Nat → DD) (hm : m ≤ l.length) (hn : n = m + 1 + (l.length - k)) (hg : ∀ i j, i < n → j < 6 → g i j = if i < m + 1 then (if i < m then (l.getD i .zero).cell j else y.cell j) else (l.getD (i - (m + 1) + k) .zero).cell j) : Dle (cx Tryz.prog mixed tyT_ok E) (.sl 6 88 n g) (.rc (.vals (l.take m ++ y :: l.drop k))) :=
  Dle.rc (X := (cx Tryz.prog mixed tyT_ok E)) (Dle.sl (X := (cx Tryz.prog mixed tyT_ok E)) (by rw [hn]; exact (pl_len l y m k hm).symm) (fun i j hi hj => Dle.of_eq (by
    rw [hg i j hi hj]
    show _ = ((l.take m ++ y :: l.drop k).getD i .zero).cell j
    rw [pl_at l y m k i .zero hm]
    by_cases h1 : i < m
    · rw [if_pos (by omega), if_pos h1, if_pos h1]
    · by_cases h2 : i = m
      · rw [if_pos (by omega), if_neg h1, if_neg h1, if_pos h2]
      · rw [if_neg (by omega), if_neg h1, if_neg h2])))
theorem keys_put (l : List ByteArray) (y : ByteArray) (m k n : Nat) (g : Nat → Nat → DD) (hm : m ≤ l.length) (hn : n = m + 1 + (l.length - k)) (hg : ∀ i j, i < n → j < 1 → g i j = if i < m + 1 then (if i < m then dS (l.getD i ⟨#[]⟩) else dS y) else dS (l.getD (i - (m + 1) + k) ⟨#[]⟩)) : Dle (cx Tryz.prog mixed tyT_ok E) (.sl 1 16 n g) (encStrs (l.take m ++ y :: l.drop k)) :=
  Dle.sl (X := (cx Tryz.prog mixed tyT_ok E)) (by rw [hn]; exact (pl_len l y m k hm).symm) (fun i j hi hj => Dle.of_eq (by
    rw [hg i j hi hj, pl_at l y m k i ⟨#[]⟩ hm]
    by_cases h1 : i < m
    · rw [if_pos (by omega), if_pos h1, if_pos h1]
    · by_cases h2 : i = m
      · rw [if_pos (by omega), if_neg h1, if_neg h1, if_pos h2]
      · rw [if_neg (by omega), if_neg h1, if_neg h2]))
theorem cell_of (y : Vu) (j : Nat) (hj : j < 6) : ([i64 y.kind, dB y.b, i64 y.i, dS y.text, .rc (.vals y.items), encStrs y.keys] : List DD).getD j .opq = y.cell j := by
  match j, hj with
  | 0, _ => rfl
  | 1, _ => rfl
  | 2, _ => rfl
  | 3, _ => rfl
  | 4, _ => rfl
  | 5, _ => rfl
set_option maxHeartbeats 8000000 in
theorem put_sp (v : Vu) (key : ByteArray) (y : Vu) (hb : v.keys.length ≤ 1000000000000) (hl : v.keys.length = v.items.length) : Sp (cx Tryz.prog mixed tyT_ok E) 33 [encV v, dS key, encV y] (encV (putK v key y)) := by
  have hf := find_sp E v key hb
  have hle := bsr_le v.keys key (v.keys.length + 1) 0 v.keys.length (by omega) (by omega)
  have e : findK v key = bsr v.keys key 0 v.keys.length := rfl
  rw [← e] at hle
  have h2 : hasK v key = true → findK v key < v.keys.length := fun h => by
    unfold hasK at h
    simp only [Bool.and_eq_true, decide_eq_true_eq] at h
    exact h.1
  unfold putK
  generalize findK v key = m at *
  cases hh : hasK v key with
  | true =>
    have h3 := h2 hh
    rw [hh] at hf
    refine Sp.body Tryz.func33 (by kernel_rfl) rfl (by kernel_rfl) (by kernel_rfl) (by kernel_rfl) ?_
    repeat' first
      | (refine facW_intro ?_; intro _)
      | refine Or.inl ?_
      | ((conv => whnf); first | (refine condW_dec ?_ ?_ <;> intro _ <;> try (exfalso; omega)) | refine condW_not ?_ | (refine condW_bool ?_ ?_ <;> intro _ <;> try (exfalso; omega)) | (refine nbC_t (fun _ => ?_) ?_) | (refine nbC_f ?_ (fun _ => ?_)))
      | refine And.intro (by first | omega | (simp only [Int.toNat_natCast] at *; omega) | (simp only [Nat.reduceAdd, Int.cast_ofNat_Int, true_and, and_true]; omega)  | kernel_rfl) ?_
      | refine RegW.run ?_
      | refine ⟨_, hf, ?_⟩
      | fail
    · refine Dle.agg (X := (cx Tryz.prog mixed tyT_ok E)) ⟨Dle.refl _ _, Dle.refl _ _, Dle.refl _ _, Dle.refl _ _, row_put E v.items y m (m + cond true 1 0) _ _ (by omega) (by simp only [cond_true, cond_false]; omega) (fun i j hi hj => ?_), keys_put E v.keys key m (m + cond true 1 0) _ _ (by omega) (by simp only [cond_true, cond_false]; omega) (fun i j hi hj => ?_), trivial⟩
      · show (if i < (m : Int).toNat - Int.toNat 0 + 1 then (if i < (m : Int).toNat - Int.toNat 0 then (v.items.getD (i + Int.toNat 0) .zero).cell j else ([i64 y.kind, dB y.b, i64 y.i, dS y.text, .rc (.vals y.items), encStrs y.keys] : List DD).getD ((i - ((m : Int).toNat - Int.toNat 0)) * 6 + j) .opq) else (v.items.getD (i - ((m : Int).toNat - Int.toNat 0 + 1) + ((m : Int) + 1).toNat) .zero).cell j) = _
        simp only [Int.toNat_natCast, Int.toNat_zero, Nat.sub_zero, Nat.add_zero, cond_true, cond_false]
        by_cases h1 : i < m + 1
        · rw [if_pos h1, if_pos h1]
          by_cases h2 : i < m
          · rw [if_pos h2, if_pos h2]
          · rw [if_neg h2, if_neg h2, show (i - m) * 6 + j = j by rw [show i - m = 0 by omega]; omega, cell_of y j hj]
        · rw [if_neg h1, if_neg h1]
          all_goals first | rfl | (rw [show ((m : Int) + 1).toNat = m + 1 by omega])
      · show (if i < (m : Int).toNat - Int.toNat 0 + 1 then (if i < (m : Int).toNat - Int.toNat 0 then dS (v.keys.getD (i + Int.toNat 0) ⟨#[]⟩) else ([dS key] : List DD).getD ((i - ((m : Int).toNat - Int.toNat 0)) * 1 + j) .opq) else dS (v.keys.getD (i - ((m : Int).toNat - Int.toNat 0 + 1) + ((m : Int) + 1).toNat) ⟨#[]⟩)) = _
        simp only [Int.toNat_natCast, Int.toNat_zero, Nat.sub_zero, Nat.add_zero, cond_true, cond_false]
        by_cases h1 : i < m + 1
        · rw [if_pos h1, if_pos h1]
          by_cases h2 : i < m
          · rw [if_pos h2, if_pos h2]
          · rw [if_neg h2, if_neg h2, show (i - m) * 1 + j = 0 by rw [show i - m = 0 by omega]; omega]
            rfl
        · rw [if_neg h1, if_neg h1]
          all_goals first | rfl | (rw [show ((m : Int) + 1).toNat = m + 1 by omega])
  | false =>
    rw [hh] at hf
    refine Sp.body Tryz.func33 (by kernel_rfl) rfl (by kernel_rfl) (by kernel_rfl) (by kernel_rfl) ?_
    repeat' first
      | (refine facW_intro ?_; intro _)
      | refine Or.inl ?_
      | ((conv => whnf); first | (refine condW_dec ?_ ?_ <;> intro _ <;> try (exfalso; omega)) | refine condW_not ?_ | (refine condW_bool ?_ ?_ <;> intro _ <;> try (exfalso; omega)) | (refine nbC_t (fun _ => ?_) ?_) | (refine nbC_f ?_ (fun _ => ?_)))
      | refine And.intro (by first | omega | (simp only [Int.toNat_natCast] at *; omega) | (simp only [Nat.reduceAdd, Int.cast_ofNat_Int, true_and, and_true]; omega)  | kernel_rfl) ?_
      | refine RegW.run ?_
      | refine ⟨_, hf, ?_⟩
      | fail
    · refine Dle.agg (X := (cx Tryz.prog mixed tyT_ok E)) ⟨Dle.refl _ _, Dle.refl _ _, Dle.refl _ _, Dle.refl _ _, row_put E v.items y m (m + cond false 1 0) _ _ (by omega) (by simp only [cond_true, cond_false]; omega) (fun i j hi hj => ?_), keys_put E v.keys key m (m + cond false 1 0) _ _ (by omega) (by simp only [cond_true, cond_false]; omega) (fun i j hi hj => ?_), trivial⟩
      · show (if i < (m : Int).toNat - Int.toNat 0 + 1 then (if i < (m : Int).toNat - Int.toNat 0 then (v.items.getD (i + Int.toNat 0) .zero).cell j else ([i64 y.kind, dB y.b, i64 y.i, dS y.text, .rc (.vals y.items), encStrs y.keys] : List DD).getD ((i - ((m : Int).toNat - Int.toNat 0)) * 6 + j) .opq) else (v.items.getD (i - ((m : Int).toNat - Int.toNat 0 + 1) + (m : Int).toNat) .zero).cell j) = _
        simp only [Int.toNat_natCast, Int.toNat_zero, Nat.sub_zero, Nat.add_zero, cond_true, cond_false]
        by_cases h1 : i < m + 1
        · rw [if_pos h1, if_pos h1]
          by_cases h2 : i < m
          · rw [if_pos h2, if_pos h2]
          · rw [if_neg h2, if_neg h2, show (i - m) * 6 + j = j by rw [show i - m = 0 by omega]; omega, cell_of y j hj]
        · rw [if_neg h1, if_neg h1]
          all_goals first | rfl | (rw [show ((m : Int) + 1).toNat = m + 1 by omega])
      · show (if i < (m : Int).toNat - Int.toNat 0 + 1 then (if i < (m : Int).toNat - Int.toNat 0 then dS (v.keys.getD (i + Int.toNat 0) ⟨#[]⟩) else ([dS key] : List DD).getD ((i - ((m : Int).toNat - Int.toNat 0)) * 1 + j) .opq) else dS (v.keys.getD (i - ((m : Int).toNat - Int.toNat 0 + 1) + (m : Int).toNat) ⟨#[]⟩)) = _
        simp only [Int.toNat_natCast, Int.toNat_zero, Nat.sub_zero, Nat.add_zero, cond_true, cond_false]
        by_cases h1 : i < m + 1
        · rw [if_pos h1, if_pos h1]
          by_cases h2 : i < m
          · rw [if_pos h2, if_pos h2]
          · rw [if_neg h2, if_neg h2, show (i - m) * 1 + j = 0 by rw [show i - m = 0 by omega]; omega]
            rfl
        · rw [if_neg h1, if_neg h1]
          all_goals first | rfl | (rw [show ((m : Int) + 1).toNat = m + 1 by omega])
end
end se
end Go.Proofs.YtocehfhhmljejaaGreatDoor
namespace Go.Proofs.YtocehfhhmljejaaGreatDoor
open Go.RowKit
set_option linter.unusedVariables false
set_option linter.unusedSimpArgs false
structure Fd where
  route : ByteArray
  kind : Int
  need : Bool
  bounded : Bool
  lo : Int
  hi : Int
  oneOf : List ByteArray
  dflt : Vu
instance : Inhabited Fd := ⟨⟨⟨#[]⟩, 0, false, false, 0, 0, [], .zero⟩⟩
def Fd.cell (f : Fd) (j : Nat) : DD :=
  match j with
  | 0 => dS f.route
  | 1 => i64 f.kind
  | 2 => dB f.need
  | 3 => dB f.bounded
  | 4 => i64 f.lo
  | 5 => i64 f.hi
  | 6 => encStrs f.oneOf
  | 7 => i64 f.dflt.kind
  | 8 => dB f.dflt.b
  | 9 => i64 f.dflt.i
  | 10 => dS f.dflt.text
  | 11 => .rc (.vals f.dflt.items)
  | 12 => encStrs f.dflt.keys
  | _ => .opq
theorem mset_mem {κ : Type} {es : List (Value × D κ)} {k : Value} {d : D κ} {p : Value × D κ} (h : p ∈ mset es k d) : p = (k, d) ∨ (p ∈ es ∧ p.1 ≠ k) := by
  unfold mset at h
  split at h
  · obtain ⟨q, hq, e⟩ := List.mem_map.1 h
    split at e
    · exact .inl e.symm
    · rename_i hne
      exact .inr ⟨e ▸ hq, e ▸ hne⟩
  · rename_i hno
    rcases List.mem_append.1 h with h | h
    · exact .inr ⟨h, fun e => hno ⟨p, h, e⟩⟩
    · exact .inl (List.mem_singleton.1 h)
theorem mset_new {κ : Type} (es : List (Value × D κ)) (k : Value) (d : D κ) : (k, d) ∈ mset es k d := by
  unfold mset
  split
  · rename_i h
    obtain ⟨q, hq, e⟩ := h
    exact List.mem_map.2 ⟨q, hq, by rw [if_pos e]⟩
  · exact List.mem_append_right _ (List.mem_singleton.2 rfl)
theorem mset_old {κ : Type} {es : List (Value × D κ)} {k : Value} {d : D κ} {p : Value × D κ} (h : p ∈ es) (hne : p.1 ≠ k) : p ∈ mset es k d := by
  unfold mset
  split
  · exact List.mem_map.2 ⟨p, h, by rw [if_neg hne]⟩
  · exact List.mem_append_left _ h
end Go.Proofs.YtocehfhhmljejaaGreatDoor
namespace Go.Proofs.YtocehfhhmljejaaGreatDoor
open Go.RowKit
set_option linter.unusedVariables false
set_option linter.unusedSimpArgs false
namespace rs
def getK (v : Vu) (k : ByteArray) : Option Vu := if hasK v k = true then some (v.items.getD (findK v k) .zero) else none
def itemK (v : Vu) (k : ByteArray) : Vu := (getK v k).getD .zero
theorem hasK_iff {v : Vu} {k : ByteArray} (hs : Srt v.keys) : hasK v k = true ↔ ∃ m, m < v.keys.length ∧ v.keys.getD m ⟨#[]⟩ = k := by
  unfold hasK
  rw [Bool.and_eq_true, decide_eq_true_iff, decide_eq_true_iff]
  constructor
  · rintro ⟨h1, h2⟩
    exact ⟨_, h1, h2⟩
  · rintro ⟨m, h1, h2⟩
    have e : findK v k = m := bsr_at hs h1 h2
    rw [e]
    exact ⟨h1, h2⟩
theorem find_at {v : Vu} {k : ByteArray} (hs : Srt v.keys) {m : Nat} (h1 : m < v.keys.length) (h2 : v.keys.getD m ⟨#[]⟩ = k) : findK v k = m ∧ hasK v k = true :=
  ⟨bsr_at hs h1 h2, (hasK_iff hs).2 ⟨m, h1, h2⟩⟩
theorem has_key {v : Vu} {k : ByteArray} (h : hasK v k = true) : findK v k < v.keys.length ∧ v.keys.getD (findK v k) ⟨#[]⟩ = k := by
  unfold hasK at h
  rwa [Bool.and_eq_true, decide_eq_true_iff, decide_eq_true_iff] at h
theorem idx_find {v : Vu} (hs : Srt v.keys) (k : ByteArray) : (idxS v.keys k 0 = -1 ∧ hasK v k = false) ∨ (idxS v.keys k 0 = (findK v k : Int) ∧ hasK v k = true) := by
  rcases idxS_spec v.keys k (v.keys.length + 1) 0 (by omega) with ⟨h1, h2⟩ | ⟨m, h1, h2, h3⟩
  · refine .inl ⟨h1, ?_⟩
    cases h : hasK v k
    · rfl
    · obtain ⟨g1, g2⟩ := has_key h
      exact absurd g2.symm (h2 _ (Nat.zero_le _) g1)
  · obtain ⟨g1, g2⟩ := find_at hs h2 (by first | exact h3.symm | exact h3.1.symm | exact h3.2.symm | exact h3.2.1.symm)
    exact .inr ⟨by rw [h1, g1], g2⟩
def names : List ByteArray := [(⟨#[110, 105, 108]⟩ : ByteArray), (⟨#[98, 111, 111, 108]⟩ : ByteArray), (⟨#[105, 110, 116]⟩ : ByteArray), (⟨#[115, 116, 114, 105, 110, 103]⟩ : ByteArray), (⟨#[100, 97, 121]⟩ : ByteArray), (⟨#[108, 105, 115, 116]⟩ : ByteArray), (⟨#[116, 97, 98, 108, 101]⟩ : ByteArray)]
def nameI (s : ByteArray) : Int := idxS names s 0
def known (s : ByteArray) : Bool := decide (s = (⟨#[97, 110, 121]⟩ : ByteArray)) || decide (0 ≤ nameI s)
def flds (v : Vu) : List Vu := (itemK v (⟨#[102, 105, 101, 108, 100, 115]⟩ : ByteArray)).items
end rs
end Go.Proofs.YtocehfhhmljejaaGreatDoor
namespace Go.Proofs.YtocehfhhmljejaaGreatDoor
open Go.RowKit
set_option linter.unusedVariables false
set_option linter.unusedSimpArgs false
namespace cr
theorem wt_eq (v : Vu) : v.wt = v.text.size + 1 + Vu.wtL v.items + (v.keys.map fun s => s.size + 1).sum := by cases v; simp only [Vu.wt, Vu.text, Vu.items, Vu.keys]
section
variable (E : Env)
set_option maxRecDepth 100000
end
end cr
end Go.Proofs.YtocehfhhmljejaaGreatDoor
namespace Go.Proofs.YtocehfhhmljejaaGreatDoor
open Go.RowKit
set_option linter.unusedVariables false
set_option linter.unusedSimpArgs false
namespace se
open cr
end se
end Go.Proofs.YtocehfhhmljejaaGreatDoor
namespace Go.Proofs.YtocehfhhmljejaaGreatDoor
open Go.RowKit
set_option linter.unusedVariables false
set_option linter.unusedSimpArgs false
namespace ts
end ts
end Go.Proofs.YtocehfhhmljejaaGreatDoor
namespace Go.Proofs.YtocehfhhmljejaaGreatDoor
open Go.RowKit
set_option linter.unusedVariables false
set_option linter.unusedSimpArgs false
namespace se
open cr
def insL {α : Type} (l : List α) (m : Nat) (y : α) : List α := l.take m ++ y :: l.drop m
theorem insL_len {α : Type} (l : List α) (m : Nat) (y : α) (hm : m ≤ l.length) : (insL l m y).length = l.length + 1 := by
  unfold insL
  rw [pl_len l y m m hm]
  omega
theorem insL_at {α : Type} (l : List α) (m i : Nat) (y d : α) (hm : m ≤ l.length) : (insL l m y).getD i d = if i < m then l.getD i d else if i = m then y else l.getD (i - 1) d := by
  unfold insL
  rw [pl_at l y m m i d hm]
  by_cases h : i < m
  · rw [if_pos h, if_pos h]
  · rw [if_neg h, if_neg h]
    by_cases h2 : i = m
    · rw [if_pos h2, if_pos h2]
    · rw [if_neg h2, if_neg h2, show i - (m + 1) + m = i - 1 by omega]
theorem pl_set {α : Type} : ∀ (l : List α) (m : Nat) (y : α), m < l.length → l.take m ++ y :: l.drop (m + 1) = l.set m y
  | [], m, y, h => by simp at h
  | x :: r, 0, y, _ => by simp
  | x :: r, m + 1, y, h => by
    have := pl_set r m y (by simpa using h)
    simp only [List.take_succ_cons, List.drop_succ_cons, List.set_cons_succ, List.cons_append, this]
theorem set_self {α : Type} (l : List α) (m : Nat) (y d : α) (hm : m < l.length) (h : l.getD m d = y) : l.set m y = l := by
  apply List.ext_getElem?
  intro i
  rw [List.getElem?_set]
  by_cases e : m = i
  · subst e
    rw [if_pos rfl, if_pos hm, List.getElem?_eq_getElem hm]
    rw [List.getD_eq_getElem?_getD, List.getElem?_eq_getElem hm] at h
    rw [← h]
    rfl
  · rw [if_neg e]
theorem wt_pos (v : Vu) : 1 ≤ v.wt := by rw [wt_eq]; omega
theorem clean (v : Vu) (h : faultE v = 0) (hk : v.kind = 0 ∨ v.kind = 5 ∨ v.kind = 6) : v.b = false ∧ v.i = 0 ∧ v.text = ⟨#[]⟩ ∧ (v.kind ≠ 6 → v.keys = []) := by
  have hu := (head_ok (fault_head h).1).1
  unfold unusedP at hu
  refine ⟨?_, ?_, ?_, fun h6 => ?_⟩
  · cases hb : v.b with
    | false => rfl
    | true => exact absurd (.inl ⟨hb, by omega⟩) hu
  · exact Classical.byContradiction fun h => hu (.inr (.inl ⟨h, by omega, by omega⟩))
  · exact Classical.byContradiction fun h => hu (.inr (.inr (.inl ⟨h, by omega⟩)))
  · exact Classical.byContradiction fun h => hu (.inr (.inr (.inr (.inr (.inl ⟨List.length_pos_iff.2 h, h6⟩)))))
theorem find_le (v : Vu) (p : ByteArray) : findK v p ≤ v.keys.length := (bsr_le v.keys p (v.keys.length + 1) 0 v.keys.length (by omega) (by omega)).2
theorem putK_yes0 (v : Vu) (p : ByteArray) (y : Vu) (hh : hasK v p = true) (hl : findK v p < v.items.length) : putK v p y = .mk 6 false 0 ⟨#[]⟩ (v.items.set (findK v p) y) v.keys := by
  have h1 := has_lt hh
  have h2 : v.keys.getD (findK v p) ⟨#[]⟩ = p := by
    unfold hasK at hh
    simp only [Bool.and_eq_true, decide_eq_true_eq] at hh
    exact hh.2
  unfold putK
  rw [hh, cond_true, pl_set _ _ _ hl, pl_set _ _ _ h1, set_self _ _ _ ⟨#[]⟩ h1 h2]
section
variable {κ : Type} {X : Cx κ}
end
section
variable (E : Env)
set_option maxRecDepth 100000
end
end se
end Go.Proofs.YtocehfhhmljejaaGreatDoor
namespace Go.Proofs.YtocehfhhmljejaaGreatDoor
open Go.RowKit
set_option linter.unusedVariables false
set_option linter.unusedSimpArgs false
namespace ap
open cr se
theorem form {v : Vu} (h : faultE v = 0) (hk : v.kind = 5 ∨ v.kind = 6) : v = .mk v.kind false 0 ⟨#[]⟩ v.items v.keys := by
  obtain ⟨c1, c2, c3, _⟩ := clean v h (by omega)
  cases v with
  | mk k b i t l ks =>
    simp only [Vu.b, Vu.i, Vu.text] at c1 c2 c3
    subst c1 c2 c3
    rfl
theorem form6 {v : Vu} (h : faultE v = 0) (hk : v.kind = 6) : v = .mk 6 false 0 ⟨#[]⟩ v.items v.keys := by
  have h1 := form h (.inr hk)
  rw [hk] at h1
  exact h1
end ap
end Go.Proofs.YtocehfhhmljejaaGreatDoor
