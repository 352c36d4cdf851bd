/-
  Tokens: bytes, comments, strings, on both sides; what a scanner's methods read.
-/
import Derived.Test.YtdmbodlkkdeaoaaTk1
import Derived.Test.YtdmbodlkkdeaoaaQ1
import Derived.Test.YtdmbodlkkdeaoaaN18
import Derived.Test.YtdmbodlkkdeaoaaShelf
namespace Go.Proofs.Ytdmbodlkkdeaoaa
open Go.RowKit
set_option linter.unusedVariables false
set_option linter.unusedSimpArgs false
namespace tk
def ML (w : World) : Prop := ∃ m : Int, w.cell? ⟨0, 0, none⟩ = some (.int .i64 m)
theorem ML.lt {w : World} (h : ML w) : 0 + 1 ≤ w.heap.size := by
  obtain ⟨m, hm⟩ := h
  exact World.block_lt_of_cell? _ _ hm
theorem ML.kp {w w' : World} (h : ML w) (hk : Kp (0 + 1) noS w w') : ML w' := by
  obtain ⟨m, hm⟩ := h
  refine ⟨m, Eq.trans ?_ hm⟩
  unfold World.cell?
  rw [hk.block _ (Nat.lt_succ_self _) (fun h => h)]
def preS (s p : ByteArray) : Bool := decide (p.size ≤ s.size) && decide (s.extract 0 p.size = p)
theorem pre_has (s : ByteArray) (i : Nat) (a b : UInt8) (hi : i ≤ s.size) : preS (s.extract i s.size) ⟨#[a, b]⟩ = hasP s i a.toNat b.toNat := by
  have hz : (s.extract i s.size).size = s.size - i := by rw [ByteArray.size_extract]; omega
  have h2 : (⟨#[a, b]⟩ : ByteArray).size = 2 := rfl
  unfold preS hasP
  rw [hz, h2]
  by_cases h : i + 2 ≤ s.size
  · have e1 : decide (2 ≤ s.size - i) = true := decide_eq_true (by omega)
    rw [e1, decide_eq_true h, Bool.true_and, Bool.true_and, Bool.eq_iff_iff]
    simp only [Bool.and_eq_true, decide_eq_true_eq]
    have g0 := ext_get s i 0 (by omega)
    have g1 := ext_get s i 1 (by omega)
    have hl : (s.extract i s.size).data.toList.length = s.size - i := ext_len s i
    have ht : ((s.extract i s.size).extract 0 2).data.toList = [bAt s i, bAt s (i + 1)] := by
      have e2 : ((s.extract i s.size).extract 0 2).data.toList = (s.extract i s.size).data.toList.take 2 := by
        simp [ByteArray.extract, ByteArray.copySlice, List.take_take]
      rw [e2]
      match hL : (s.extract i s.size).data.toList with
      | [] => rw [hL] at hl; simp at hl; omega
      | [x] => rw [hL] at hl; simp at hl; omega
      | x :: y :: r =>
        rw [hL] at g0 g1
        simp at g0 g1
        simp [g0, g1]
    unfold at_
    constructor
    · intro e
      rw [e] at ht
      have ht : [a, b] = [bAt s i, bAt s (i + 1)] := ht
      injection ht with h3 h4
      injection h4 with h4 _
      exact ⟨by rw [h3], by rw [h4]⟩
    · rintro ⟨h3, h4⟩
      have h3 : bAt s i = a := UInt8.toNat_inj.1 h3
      have h4 : bAt s (i + 1) = b := UInt8.toNat_inj.1 h4
      rw [h3, h4] at ht
      have : ((s.extract i s.size).extract 0 2).data = #[a, b] := by
        apply Array.toList_inj.1
        exact ht
      exact congrArg ByteArray.mk this
  · have e1 : decide (2 ≤ s.size - i) = false := decide_eq_false (by omega)
    rw [e1, decide_eq_false h, Bool.false_and, Bool.false_and]
section
variable (E : Env)
set_option maxRecDepth 100000
theorem badByte_sp (c : Nat) : Sp (cx Try.prog mixed tyT_ok E) 76 [.v (.int .u8 (c : Int))] (dB (badB c)) := by
  refine Sp.body Try.func76 (by kernel_rfl) rfl (by kernel_rfl) (by kernel_rfl) (by kernel_rfl) ?_
  repeat' first
    | (refine facW_intro ?_; intro _)
    | refine Or.inl ?_
    | ((conv => whnf); first | (refine condW_dec ?_ ?_ <;> intro _ <;> try (exfalso; omega)) | refine condW_not ?_ | (refine condW_bool ?_ ?_ <;> intro _ <;> try (exfalso; omega)) | (refine nbC_t (fun _ => ?_) ?_) | (refine nbC_f ?_ (fun _ => ?_)))
    | refine And.intro (by first | omega | (simp only [Int.toNat_natCast] at *; omega) | (simp only [Nat.reduceAdd, Int.cast_ofNat_Int, true_and, and_true]; omega) | kernel_rfl) ?_
    | refine RegW.run ?_
    | fail
  all_goals exact Dle.bo (by unfold badB; grind)
theorem isBlank_sp (c : Nat) : Sp (cx Try.prog mixed tyT_ok E) 77 [.v (.int .u8 (c : Int))] (dB (blkB c)) := by
  refine Sp.body Try.func77 (by kernel_rfl) rfl (by kernel_rfl) (by kernel_rfl) (by kernel_rfl) ?_
  repeat' first
    | (refine facW_intro ?_; intro _)
    | refine Or.inl ?_
    | ((conv => whnf); first | (refine condW_dec ?_ ?_ <;> intro _ <;> try (exfalso; omega)) | refine condW_not ?_ | (refine condW_bool ?_ ?_ <;> intro _ <;> try (exfalso; omega)) | (refine nbC_t (fun _ => ?_) ?_) | (refine nbC_f ?_ (fun _ => ?_)))
    | refine And.intro (by first | omega | (simp only [Int.toNat_natCast] at *; omega) | (simp only [Nat.reduceAdd, Int.cast_ofNat_Int, true_and, and_true]; omega) | kernel_rfl) ?_
    | refine RegW.run ?_
    | fail
  all_goals exact Dle.bo (by unfold blkB; grind)
theorem isDigit_sp (c : Nat) : Sp (cx Try.prog mixed tyT_ok E) 112 [.v (.int .u8 (c : Int))] (dB (decide (48 ≤ c) && decide (c ≤ 57))) := by
  refine Sp.body Try.func112 (by kernel_rfl) rfl (by kernel_rfl) (by kernel_rfl) (by kernel_rfl) ?_
  repeat' first
    | (refine facW_intro ?_; intro _)
    | refine Or.inl ?_
    | ((conv => whnf); first | (refine condW_dec ?_ ?_ <;> intro _ <;> try (exfalso; omega)) | refine condW_not ?_ | (refine condW_bool ?_ ?_ <;> intro _ <;> try (exfalso; omega)) | (refine nbC_t (fun _ => ?_) ?_) | (refine nbC_f ?_ (fun _ => ?_)))
    | refine And.intro (by first | omega | (simp only [Int.toNat_natCast] at *; omega) | (simp only [Nat.reduceAdd, Int.cast_ofNat_Int, true_and, and_true]; omega) | kernel_rfl) ?_
    | refine RegW.run ?_
    | fail
  all_goals exact Dle.bo (by grind)
theorem isScriptWord_sp (c : Nat) : Sp (cx Try.prog mixed tyT_ok E) 100 [.v (.int .u8 (c : Int))] (dB (wordB c)) := by
  have h1 := isDigit_sp E c
  refine Sp.body Try.func100 (by kernel_rfl) rfl (by kernel_rfl) (by kernel_rfl) (by kernel_rfl) ?_
  repeat' first
    | (refine facW_intro ?_; intro _)
    | refine Or.inl ?_
    | ((conv => whnf); first | (refine condW_dec ?_ ?_ <;> intro _ <;> try (exfalso; omega)) | refine condW_not ?_ | (refine condW_bool ?_ ?_ <;> intro _ <;> try (exfalso; omega)) | (refine nbC_t (fun _ => ?_) ?_) | (refine nbC_f ?_ (fun _ => ?_)))
    | refine And.intro (by first | omega | (simp only [Int.toNat_natCast] at *; omega) | (simp only [Nat.reduceAdd, Int.cast_ofNat_Int, true_and, and_true]; omega) | kernel_rfl) ?_
    | refine RegW.run ?_
    | refine ⟨_, h1, ?_⟩
    | fail
  all_goals exact Dle.bo (by unfold wordB; grind)
theorem innerPre_sp (s p : ByteArray) : Sp (cx Try.prog mixed tyT_ok E) 109 [dS s, dS p] (dB (preS s p)) := by
  refine Sp.body Try.func109 (by kernel_rfl) rfl (by kernel_rfl) (by kernel_rfl) (by kernel_rfl) ?_
  repeat' first
    | (refine facW_intro ?_; intro _)
    | refine Or.inl ?_
    | ((conv => whnf); first | (refine condW_dec ?_ ?_ <;> intro _) | refine condW_not ?_ | (refine condW_bool ?_ ?_ <;> intro _) | (refine nbC_t (fun _ => ?_) ?_) | (refine nbC_f ?_ (fun _ => ?_)))
    | refine And.intro (by first | omega | (simp only [Int.toNat_natCast] at *; omega) | (simp only [Nat.reduceAdd, Int.cast_ofNat_Int, true_and, and_true]; omega) | kernel_rfl) ?_
    | refine RegW.run ?_
    | fail
  all_goals first
    | exact Dle.bo (by unfold preS; grind)
    | exact Dle.bo (by unfold preS; simp only [Int.toNat_natCast] at *; grind)
theorem pre_sp (s p : ByteArray) : Sp (cx Try.prog mixed tyT_ok E) 97 [dS s, dS p] (dB (preS s p)) := by
  have h := innerPre_sp E s p
  generalize preS s p = b at h
  refine Sp.body Try.func97 (by kernel_rfl) rfl (by kernel_rfl) (by kernel_rfl) (by kernel_rfl) ?_
  repeat' first
    | (refine facW_intro ?_; intro _)
    | refine Or.inl ?_
    | ((conv => whnf); first | (refine condW_dec ?_ ?_ <;> intro _) | refine condW_not ?_ | (refine condW_bool ?_ ?_ <;> intro _) | (refine nbC_t (fun _ => ?_) ?_) | (refine nbC_f ?_ (fun _ => ?_)))
    | refine And.intro (by first | omega | (simp only [Int.toNat_natCast] at *; omega) | (simp only [Nat.reduceAdd, Int.cast_ofNat_Int, true_and, and_true]; omega) | kernel_rfl) ?_
    | refine RegW.run ?_
    | refine ⟨_, h, ?_⟩
    | fail
  all_goals exact Dle.refl _ _
theorem idx_sp (hML : ∀ w, E.G w → ML w) (s p : ByteArray) (hs : s.size < 4294967281) : Sp (cx Try.prog mixed tyT_ok E) 98 [dS s, dS p] (i64 (Lib.index s.data.toList p.data.toList)) :=
  Sp.of_v (vs := [.string s, .string p]) ⟨_, _, Try.func98, by kernel_rfl, rfl⟩ rfl (fun w hG => by
    obtain ⟨m, hm⟩ := hML w hG
    exact (Try.strings_Index s p m w hs hm).mono fun e w' ⟨he, hb⟩ => ⟨he, hb ▸ Below.refl _ _⟩)
theorem idxB_sp (s : ByteArray) (c : UInt8) : Sp (cx Try.prog mixed tyT_ok E) 99 [dS s, .v (.int .u8 (c.toNat : Int))] (i64 (Lib.indexByte s.data.toList c)) :=
  Sp.of_v (vs := [.string s, .int .u8 (c.toNat : Int)]) ⟨_, _, Try.func99, by kernel_rfl, rfl⟩ rfl (fun w _ => (Try.strings_IndexByte s (c.toNat : Int) w).mono fun e w' ⟨he, hb⟩ => ⟨by rw [he]; simp, hb ▸ Below.refl _ _⟩)
/-! ## The reference's pieces -/
theorem refused1 (w : World) : PredAt Try.prog 114 #[] encR badB w := by
  intro W r _
  unfold FnGives
  by_cases h1 : r < 32 <;> by_cases h2 : r = 9 <;> by_cases h3 : r = 10 <;> by_cases h4 : r = 127 <;> first
    | (exfalso; omega)
    | (have q1 : ((r : Int) == 127) = decide (r = 127) := by rw [Bool.eq_iff_iff]; simp; omega
       have q2 : ((r : Int) == 9) = decide (r = 9) := by rw [Bool.eq_iff_iff]; simp; omega
       have q3 : ((r : Int) == 10) = decide (r = 10) := by rw [Bool.eq_iff_iff]; simp; omega
       go_enter Try.func114, Try.ntmps114
       go_wp2
       go_ret
       exact ⟨by simp_all [badB] <;> omega, 0, rfl⟩)
end
end tk
end Go.Proofs.Ytdmbodlkkdeaoaa
