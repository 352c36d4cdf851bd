/-
  Tokens: the first byte that cannot be there, found among runes; the places of ends. Tokens: bytes, comments, strings, on both sides; what a scanner's methods read.
-/
import Derived.Test.YtiiohopjkepkgaaTk0
import Derived.Shelf.GgClosure.StringsIndexFunc
import Derived.Laws.RangeAny
import Derived.Lib.IndexMore
import Derived.Test.YtiiohopjkepkgaaQ1
import Derived.Test.YtiiohopjkepkgaaN18
import Derived.Test.YtiiohopjkepkgaaShelf
namespace Go.Proofs.Ytiiohopjkepkgaa.tk
open Go.RowKit
set_option linter.unusedVariables false
set_option linter.unusedSimpArgs false
theorem get_at (s : ByteArray) (k : Nat) (h : k < s.size) : (s.get! k).toNat = at_ s k := by
  unfold at_
  cases s with
  | mk a =>
    have h' : k < a.size := h
    have e : (ByteArray.mk a).get! k = a[k] := getElem!_pos a k h'
    rw [e]
    simp [bAt, List.getD, h']
theorem dec_cont (s : ByteArray) (i : Nat) (hi : i < s.size) : i + (Utf8.decode s i).2 ≤ s.size ∧ ∀ k, i < k → k < i + (Utf8.decode s i).2 → 128 ≤ at_ s k := by
  have c1 : ∀ k, (decide (i + k < s.size) && (s.get! (i + k)).toNat / 64 == 2) = true → i + k < s.size ∧ 128 ≤ at_ s (i + k) := fun k h => by
    simp only [Bool.and_eq_true, decide_eq_true_eq, beq_iff_eq] at h
    rw [get_at s _ h.1] at h
    omega
  have small : ∀ r : Nat, i + (r, 1).2 ≤ s.size ∧ ∀ k, i < k → k < i + (r, 1).2 → 128 ≤ at_ s k := fun r => ⟨by show i + 1 ≤ _; omega, fun k h1 h2 => by exfalso; dsimp only at h2; omega⟩
  unfold Utf8.decode
  dsimp only
  split
  · exact small _
  · split
    · rename_i h
      rw [Bool.and_eq_true] at h
      have h1 := c1 1 h.2
      split
      · refine ⟨by dsimp only; omega, fun k hk hk2 => ?_⟩
        dsimp only at hk2
        obtain rfl : k = i + 1 := by omega
        exact h1.2
      · exact small _
    · split
      · rename_i h
        rw [Bool.and_eq_true, Bool.and_eq_true] at h
        have h1 := c1 1 h.1.2
        have h2 := c1 2 h.2
        split
        · refine ⟨by dsimp only; omega, fun k hk hk2 => ?_⟩
          dsimp only at hk2
          rcases (show k = i + 1 ∨ k = i + 2 by omega) with rfl | rfl
          · exact h1.2
          · exact h2.2
        · exact small _
      · split
        · rename_i h
          rw [Bool.and_eq_true, Bool.and_eq_true, Bool.and_eq_true] at h
          have h1 := c1 1 h.1.1.2
          have h2 := c1 2 h.1.2
          have h3 := c1 3 h.2
          split
          · refine ⟨by dsimp only; omega, fun k hk hk2 => ?_⟩
            dsimp only at hk2
            rcases (show k = i + 1 ∨ k = i + 2 ∨ k = i + 3 by omega) with rfl | rfl | rfl
            · exact h1.2
            · exact h2.2
            · exact h3.2
          · exact small _
        · exact small _
theorem bad_high {r : Nat} (h : 128 ≤ r) : badB r = false := by
  unfold badB
  simp only [Bool.or_eq_false_iff, Bool.and_eq_false_iff, decide_eq_false_iff_not]
  exact ⟨.inl (by omega), by omega⟩
theorem idx_chk (s : ByteArray) : ∀ (f pos : Nat), s.size ≤ pos + f → Lib.idxFuncFrom badB true s f pos = chk s pos s.size
  | 0, pos, h => by
    rw [chk_end (by omega)]; rfl
  | f + 1, pos, h => by
    by_cases hp : pos < s.size
    · rw [Lib.idxFuncFrom, if_pos hp]
      have e : (s[pos]'hp).toNat = at_ s pos := by unfold at_; rw [bAt_eq]
      by_cases hb : at_ s pos < 128
      · have hd := decode_ascii s pos hp (by omega)
        rw [hd, e]
        cases h2 : badB (at_ s pos)
        · rw [if_neg (by simp), chk_ok hp h2]
          exact idx_chk s f (pos + 1) (by omega)
        · rw [if_pos rfl, chk_bad hp h2]
      · obtain ⟨h1, h2⟩ := decode_high s pos hp (by omega)
        obtain ⟨h3, h4⟩ := dec_cont s pos hp
        rw [bad_high h1, if_neg (by simp), idx_chk s f _ (by omega)]
        refine (chk_skip (by omega) (fun k hk hk2 => bad_high ?_) h3).symm
        by_cases hkp : k = pos
        · subst hkp; omega
        · exact h4 k (by omega) hk2
    · rw [Lib.idxFuncFrom_end _ _ _ _ _ hp, chk_end (by omega)]
theorem idx_all (s : ByteArray) : Lib.idxFunc badB true s = chk s 0 s.size := idx_chk s s.size 0 (by omega)
/-! ## The places of ends -/
def ends2 : ByteArray := ⟨#[42, 47]⟩
def ixE (s : ByteArray) (j : Nat) : Int := Lib.index (s.extract j s.size).data.toList ends2.data.toList
def ibE (s : ByteArray) (j : Nat) : Int := Lib.indexByte (s.extract j s.size).data.toList 10
theorem ext_len (s : ByteArray) (j : Nat) : (s.extract j s.size).data.toList.length = s.size - j := by
  rw [Array.length_toList]
  show (s.extract j s.size).size = _
  rw [ByteArray.size_extract]; omega
theorem ext_get (s : ByteArray) (f k : Nat) (h : f + k < s.size) : (s.extract f s.size).data.toList[k]? = some (bAt s (f + k)) := by
  have h1 : (s.extract f s.size).data.toList = (s.data.toList.take s.size).drop f := by
    simp [ByteArray.extract, ByteArray.copySlice, List.drop_take]
    try omega
  rw [h1, List.getElem?_drop, List.getElem?_take, if_pos h]
  have h2 : f + k < s.data.toList.length := by rw [Array.length_toList]; exact h
  simp [bAt, List.getD, List.getElem?_eq_getElem h2]
theorem ixE_or (s : ByteArray) (j : Nat) (hj : j ≤ s.size) : ixE s j = -1 ∨ (0 ≤ ixE s j ∧ ixE s j + 2 + j ≤ s.size) := by
  have h1 := Lib.index_ge (s.extract j s.size).data.toList ends2.data.toList
  have h2 := Lib.index_room (s.extract j s.size).data.toList ends2.data.toList
  rw [ext_len] at h2
  have h3 : ends2.data.toList.length = 2 := rfl
  rw [h3] at h2
  unfold ixE
  omega
theorem ibE_or (s : ByteArray) (j : Nat) (hj : j < s.size) (hn : at_ s j ≠ 10) : ibE s j = -1 ∨ (1 ≤ ibE s j ∧ ibE s j + j < s.size) := by
  have h1 := Lib.indexByte_ge (s.extract j s.size).data.toList 10
  unfold ibE
  rcases Int.lt_or_le (Lib.indexByte (s.extract j s.size).data.toList 10) 0 with h | h
  · exact .inl (by omega)
  · obtain ⟨o, ho⟩ := Int.eq_ofNat_of_zero_le h
    obtain ⟨h2, _⟩ := Lib.indexByte_some ho
    have h3 := (List.getElem?_eq_some_iff.1 h2).1
    rw [ext_len] at h3
    refine .inr ⟨?_, by omega⟩
    rcases Nat.eq_zero_or_pos o with h0 | h0
    · subst h0
      rw [ext_get s j 0 (by omega)] at h2
      injection h2 with h2
      exact absurd (by unfold at_; rw [show j = j + 0 from rfl, h2]; rfl) hn
    · omega
def cmE (s : ByteArray) (sc : Bool) (i : Nat) : Int := cm ixE ibE s sc i
theorem cmE_ok (s : ByteArray) (sc : Bool) : CmOk cmE s sc := by
  intro i hi
  unfold cmE cm
  by_cases h : hasP s i 47 42 = true
  · rw [if_pos h]
    have h0 : i + 2 ≤ s.size := by
      unfold hasP at h
      simp only [Bool.and_eq_true, decide_eq_true_eq] at h
      exact h.1
    have h3 := ixE_or s (i + 2) h0
    split <;> omega
  · rw [if_neg h]
    by_cases h4 : (sc && hasP s i 47 47) = true
    · rw [if_pos h4]
      have h5 : at_ s i = 47 := by
        unfold hasP at h4
        simp only [Bool.and_eq_true, decide_eq_true_eq] at h4
        exact h4.2.2.1
      have h6 := ibE_or s i hi (by omega)
      split <;> omega
    · rw [if_neg h4]
      exact .inl rfl
end Go.Proofs.Ytiiohopjkepkgaa.tk
namespace Go.Proofs.Ytiiohopjkepkgaa
open Go.RowKit
set_option linter.unusedVariables false
set_option linter.unusedSimpArgs false
namespace tk
def ML (w : World) : Prop := ∃ m : Int, w.cell? ⟨0, 0, none⟩ = some (.int .i64 m)
theorem ML.lt {w : World} (h : ML w) : 0 + 1 ≤ w.heap.size := by
  obtain ⟨m, hm⟩ := h
  exact World.block_lt_of_cell? _ _ hm
theorem ML.kp {w w' : World} (h : ML w) (hk : Kp (0 + 1) noS w w') : ML w' := by
  obtain ⟨m, hm⟩ := h
  refine ⟨m, Eq.trans ?_ hm⟩
  unfold World.cell?
  rw [hk.block _ (Nat.lt_succ_self _) (fun h => h)]
def preS (s p : ByteArray) : Bool := decide (p.size ≤ s.size) && decide (s.extract 0 p.size = p)
theorem pre_has (s : ByteArray) (i : Nat) (a b : UInt8) (hi : i ≤ s.size) : preS (s.extract i s.size) ⟨#[a, b]⟩ = hasP s i a.toNat b.toNat := by
  have hz : (s.extract i s.size).size = s.size - i := by rw [ByteArray.size_extract]; omega
  have h2 : (⟨#[a, b]⟩ : ByteArray).size = 2 := rfl
  unfold preS hasP
  rw [hz, h2]
  by_cases h : i + 2 ≤ s.size
  · have e1 : decide (2 ≤ s.size - i) = true := decide_eq_true (by omega)
    rw [e1, decide_eq_true h, Bool.true_and, Bool.true_and, Bool.eq_iff_iff]
    simp only [Bool.and_eq_true, decide_eq_true_eq]
    have g0 := ext_get s i 0 (by omega)
    have g1 := ext_get s i 1 (by omega)
    have hl : (s.extract i s.size).data.toList.length = s.size - i := ext_len s i
    have ht : ((s.extract i s.size).extract 0 2).data.toList = [bAt s i, bAt s (i + 1)] := by
      have e2 : ((s.extract i s.size).extract 0 2).data.toList = (s.extract i s.size).data.toList.take 2 := by
        simp [ByteArray.extract, ByteArray.copySlice, List.take_take]
      rw [e2]
      match hL : (s.extract i s.size).data.toList with
      | [] => rw [hL] at hl; simp at hl; omega
      | [x] => rw [hL] at hl; simp at hl; omega
      | x :: y :: r =>
        rw [hL] at g0 g1
        simp at g0 g1
        simp [g0, g1]
    unfold at_
    constructor
    · intro e
      rw [e] at ht
      have ht : [a, b] = [bAt s i, bAt s (i + 1)] := ht
      injection ht with h3 h4
      injection h4 with h4 _
      exact ⟨by rw [h3], by rw [h4]⟩
    · rintro ⟨h3, h4⟩
      have h3 : bAt s i = a := UInt8.toNat_inj.1 h3
      have h4 : bAt s (i + 1) = b := UInt8.toNat_inj.1 h4
      rw [h3, h4] at ht
      have : ((s.extract i s.size).extract 0 2).data = #[a, b] := by
        apply Array.toList_inj.1
        exact ht
      exact congrArg ByteArray.mk this
  · have e1 : decide (2 ≤ s.size - i) = false := decide_eq_false (by omega)
    rw [e1, decide_eq_false h, Bool.false_and, Bool.false_and]
section
variable (E : Env)
set_option maxRecDepth 100000
theorem badByte_sp (c : Nat) : Sp (cx Try.prog mixed tyT_ok E) 31 [.v (.int .u8 (c : Int))] (dB (badB c)) := by
  refine Sp.body Try.func31 (by kernel_rfl) rfl (by kernel_rfl) (by kernel_rfl) (by kernel_rfl) ?_
  repeat' first
    | (refine codeW_cond rfl ?_; first | (refine condW_dec ?_ ?_ <;> intro _ <;> try (exfalso; omega)) | refine condW_not ?_ | (refine condW_bool ?_ ?_ <;> intro _ <;> try (exfalso; omega)))
    | (refine facW_intro ?_; intro _)
    | refine Or.inl ?_
    | ((conv => whnf); first | (refine condW_dec ?_ ?_ <;> intro _ <;> try (exfalso; omega)) | refine condW_not ?_ | (refine condW_bool ?_ ?_ <;> intro _ <;> try (exfalso; omega)) | (refine nbC_t (fun _ => ?_) ?_) | (refine nbC_f ?_ (fun _ => ?_)))
    | refine And.intro (by first | omega | (simp only [Int.toNat_natCast] at *; omega) | (simp only [Nat.reduceAdd, Int.cast_ofNat_Int, true_and, and_true]; omega) | kernel_rfl) ?_
    | refine RegW.run ?_
    | fail
  all_goals exact Dle.bo (by unfold badB; grind)
theorem isBlank_sp (c : Nat) : Sp (cx Try.prog mixed tyT_ok E) 32 [.v (.int .u8 (c : Int))] (dB (blkB c)) := by
  refine Sp.body Try.func32 (by kernel_rfl) rfl (by kernel_rfl) (by kernel_rfl) (by kernel_rfl) ?_
  repeat' first
    | (refine codeW_cond rfl ?_; first | (refine condW_dec ?_ ?_ <;> intro _ <;> try (exfalso; omega)) | refine condW_not ?_ | (refine condW_bool ?_ ?_ <;> intro _ <;> try (exfalso; omega)))
    | (refine facW_intro ?_; intro _)
    | refine Or.inl ?_
    | ((conv => whnf); first | (refine condW_dec ?_ ?_ <;> intro _ <;> try (exfalso; omega)) | refine condW_not ?_ | (refine condW_bool ?_ ?_ <;> intro _ <;> try (exfalso; omega)) | (refine nbC_t (fun _ => ?_) ?_) | (refine nbC_f ?_ (fun _ => ?_)))
    | refine And.intro (by first | omega | (simp only [Int.toNat_natCast] at *; omega) | (simp only [Nat.reduceAdd, Int.cast_ofNat_Int, true_and, and_true]; omega) | kernel_rfl) ?_
    | refine RegW.run ?_
    | fail
  all_goals exact Dle.bo (by unfold blkB; grind)
theorem isDigit_sp (c : Nat) : Sp (cx Try.prog mixed tyT_ok E) 52 [.v (.int .u8 (c : Int))] (dB (decide (48 ≤ c) && decide (c ≤ 57))) := by
  refine Sp.body Try.func52 (by kernel_rfl) rfl (by kernel_rfl) (by kernel_rfl) (by kernel_rfl) ?_
  repeat' first
    | (refine codeW_cond rfl ?_; first | (refine condW_dec ?_ ?_ <;> intro _ <;> try (exfalso; omega)) | refine condW_not ?_ | (refine condW_bool ?_ ?_ <;> intro _ <;> try (exfalso; omega)))
    | (refine facW_intro ?_; intro _)
    | refine Or.inl ?_
    | ((conv => whnf); first | (refine condW_dec ?_ ?_ <;> intro _ <;> try (exfalso; omega)) | refine condW_not ?_ | (refine condW_bool ?_ ?_ <;> intro _ <;> try (exfalso; omega)) | (refine nbC_t (fun _ => ?_) ?_) | (refine nbC_f ?_ (fun _ => ?_)))
    | refine And.intro (by first | omega | (simp only [Int.toNat_natCast] at *; omega) | (simp only [Nat.reduceAdd, Int.cast_ofNat_Int, true_and, and_true]; omega) | kernel_rfl) ?_
    | refine RegW.run ?_
    | fail
  all_goals exact Dle.bo (by grind)
theorem isScriptWord_sp (c : Nat) : Sp (cx Try.prog mixed tyT_ok E) 47 [.v (.int .u8 (c : Int))] (dB (wordB c)) := by
  have h1 := isDigit_sp E c
  refine Sp.body Try.func47 (by kernel_rfl) rfl (by kernel_rfl) (by kernel_rfl) (by kernel_rfl) ?_
  repeat' first
    | (refine codeW_cond rfl ?_; first | (refine condW_dec ?_ ?_ <;> intro _ <;> try (exfalso; omega)) | refine condW_not ?_ | (refine condW_bool ?_ ?_ <;> intro _ <;> try (exfalso; omega)))
    | (refine facW_intro ?_; intro _)
    | refine Or.inl ?_
    | ((conv => whnf); first | (refine condW_dec ?_ ?_ <;> intro _ <;> try (exfalso; omega)) | refine condW_not ?_ | (refine condW_bool ?_ ?_ <;> intro _ <;> try (exfalso; omega)) | (refine nbC_t (fun _ => ?_) ?_) | (refine nbC_f ?_ (fun _ => ?_)))
    | refine And.intro (by first | omega | (simp only [Int.toNat_natCast] at *; omega) | (simp only [Nat.reduceAdd, Int.cast_ofNat_Int, true_and, and_true]; omega) | kernel_rfl) ?_
    | refine RegW.run ?_
    | refine ⟨_, h1, ?_⟩
    | fail
  all_goals exact Dle.bo (by unfold wordB; grind)
theorem innerPre_sp (s p : ByteArray) : Sp (cx Try.prog mixed tyT_ok E) 49 [dS s, dS p] (dB (preS s p)) := by
  refine Sp.body Try.func49 (by kernel_rfl) rfl (by kernel_rfl) (by kernel_rfl) (by kernel_rfl) ?_
  repeat' first
    | (refine codeW_cond rfl ?_; first | (refine condW_dec ?_ ?_ <;> intro _ <;> try (exfalso; omega)) | refine condW_not ?_ | (refine condW_bool ?_ ?_ <;> intro _ <;> try (exfalso; omega)))
    | (refine facW_intro ?_; intro _)
    | refine Or.inl ?_
    | ((conv => whnf); first | (refine condW_dec ?_ ?_ <;> intro _) | refine condW_not ?_ | (refine condW_bool ?_ ?_ <;> intro _) | (refine nbC_t (fun _ => ?_) ?_) | (refine nbC_f ?_ (fun _ => ?_)))
    | refine And.intro (by first | omega | (simp only [Int.toNat_natCast] at *; omega) | (simp only [Nat.reduceAdd, Int.cast_ofNat_Int, true_and, and_true]; omega) | kernel_rfl) ?_
    | refine RegW.run ?_
    | fail
  all_goals first
    | exact Dle.bo (by unfold preS; grind)
    | exact Dle.bo (by unfold preS; simp only [Int.toNat_natCast] at *; grind)
theorem pre_sp (s p : ByteArray) : Sp (cx Try.prog mixed tyT_ok E) 44 [dS s, dS p] (dB (preS s p)) := by
  have h := innerPre_sp E s p
  generalize preS s p = b at h
  refine Sp.body Try.func44 (by kernel_rfl) rfl (by kernel_rfl) (by kernel_rfl) (by kernel_rfl) ?_
  repeat' first
    | (refine codeW_cond rfl ?_; first | (refine condW_dec ?_ ?_ <;> intro _ <;> try (exfalso; omega)) | refine condW_not ?_ | (refine condW_bool ?_ ?_ <;> intro _ <;> try (exfalso; omega)))
    | (refine facW_intro ?_; intro _)
    | refine Or.inl ?_
    | ((conv => whnf); first | (refine condW_dec ?_ ?_ <;> intro _) | refine condW_not ?_ | (refine condW_bool ?_ ?_ <;> intro _) | (refine nbC_t (fun _ => ?_) ?_) | (refine nbC_f ?_ (fun _ => ?_)))
    | refine And.intro (by first | omega | (simp only [Int.toNat_natCast] at *; omega) | (simp only [Nat.reduceAdd, Int.cast_ofNat_Int, true_and, and_true]; omega) | kernel_rfl) ?_
    | refine RegW.run ?_
    | refine ⟨_, h, ?_⟩
    | fail
  all_goals exact Dle.refl _ _
theorem idx_sp (hML : ∀ w, E.G w → ML w) (s p : ByteArray) (hs : s.size < 4294967281) : Sp (cx Try.prog mixed tyT_ok E) 45 [dS s, dS p] (i64 (Lib.index s.data.toList p.data.toList)) :=
  Sp.of_v (vs := [.string s, .string p]) ⟨_, _, Try.func45, by kernel_rfl, rfl⟩ rfl (fun w hG => by
    obtain ⟨m, hm⟩ := hML w hG
    exact (Try.strings_Index s p m w hs hm).mono fun e w' ⟨he, hb⟩ => ⟨he, hb ▸ Below.refl _ _⟩)
theorem idxB_sp (s : ByteArray) (c : UInt8) : Sp (cx Try.prog mixed tyT_ok E) 46 [dS s, .v (.int .u8 (c.toNat : Int))] (i64 (Lib.indexByte s.data.toList c)) :=
  Sp.of_v (vs := [.string s, .int .u8 (c.toNat : Int)]) ⟨_, _, Try.func46, by kernel_rfl, rfl⟩ rfl (fun w _ => (Try.strings_IndexByte s (c.toNat : Int) w).mono fun e w' ⟨he, hb⟩ => ⟨by rw [he]; simp, hb ▸ Below.refl _ _⟩)
/-! ## The reference's pieces -/
theorem refused1 (w : World) : PredAt Try.prog 43 #[] encR badB w := by
  intro W r _
  unfold FnGives
  by_cases h1 : r < 32 <;> by_cases h2 : r = 9 <;> by_cases h3 : r = 10 <;> by_cases h4 : r = 127 <;> first
    | (exfalso; omega)
    | (have q1 : ((r : Int) == 127) = decide (r = 127) := by rw [Bool.eq_iff_iff]; simp; omega
       have q2 : ((r : Int) == 9) = decide (r = 9) := by rw [Bool.eq_iff_iff]; simp; omega
       have q3 : ((r : Int) == 10) = decide (r = 10) := by rw [Bool.eq_iff_iff]; simp; omega
       go_enter Try.func43, Try.ntmps43
       go_wp2
       go_ret
       exact ⟨by simp_all [badB] <;> omega, 0, rfl⟩)
end
end tk
end Go.Proofs.Ytiiohopjkepkgaa
