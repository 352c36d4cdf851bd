/-
  A bundle's map read: asset.read32, asset.ReadMap over data.
-/
import Derived.Test.YtiiohopjkepkgaaGreatDoorMd2
namespace Go.Proofs.YtiiohopjkepkgaaGreatDoor
open Go.RowKit
set_option linter.unusedVariables false
set_option linter.unusedSimpArgs false
namespace md
open mp32
theorem szOk_no1 {s : ByteArray} (h : s = ⟨#[]⟩) : szOk s = false := by
  cases hs : szOk s
  · rfl
  · exact absurd h ((szOk_iff s).1 hs).1
theorem szOk_no2 {s : ByteArray} (h : (((bAt s (0 : Int).toNat).toNat : Nat) : Int) = 48) (h2 : ¬ s = ⟨#[48]⟩) : szOk s = false := by
  cases hs : szOk s
  · rfl
  · refine absurd ⟨?_, h2⟩ ((szOk_iff s).1 hs).2.1
    have : (bAt s (0 : Int).toNat).toNat = 48 := by omega
    exact this
theorem szOk_no3 {s : ByteArray} {k : Nat} (hk : k < s.size) (h : dgC s k < 0) : szOk s = false := by
  cases hs : szOk s
  · rfl
  · have := of_decide_eq_true (allN_iff.1 ((szOk_iff s).1 hs).2.2 k hk)
    omega
theorem szOk_yes {s : ByteArray} (h0 : ¬ s = ⟨#[]⟩) (h1 : ¬ ((((bAt s (0 : Int).toNat).toNat : Nat) : Int) = 48 ∧ ¬ s = ⟨#[48]⟩)) (h2 : allN s.size (fun k => decide (0 ≤ dgC s k)) = true) : szOk s = true :=
  (szOk_iff s).2 ⟨h0, fun ⟨a, b⟩ => h1 ⟨by have a : (bAt s (0 : Int).toNat).toNat = 48 := a; omega, b⟩, h2⟩
section
variable (E : Env)
set_option maxRecDepth 100000
theorem index32_sp (c : UInt8) : Sp (cx Tryz.prog mixed tyT_ok E) 87 [dS tabD, .v (.int .u8 (c.toNat : Int))] (i64 (dgN c.toNat)) :=
  Sp.of_v (vs := [.string tabD, .int .u8 (c.toNat : Int)]) ⟨_, _, Tryz.func87, by kernel_rfl, rfl⟩ rfl (fun w _ => (Tryz.strings_IndexByte tabD (c.toNat : Int) w).mono fun e w' ⟨he, hb⟩ => ⟨by rw [he, ← (dg_idx c).1]; simp, hb ▸ Below.refl _ _⟩)
theorem read32_sp (s : ByteArray) (hs : s.size ≤ 1000000) : Sp (cx Tryz.prog mixed tyT_ok E) 42 [dS s] (.tup [i64 (if szOk s = true then rd s s.size else 0), dB (szOk s)]) := by
  refine Sp.body Tryz.func42 (by kernel_rfl) rfl (by kernel_rfl) (by kernel_rfl) (by kernel_rfl) ?_
  repeat' first
    | (refine codeW_cond rfl ?_; first | (refine condW_dec ?_ ?_ <;> intro _ <;> try (exfalso; omega)) | refine condW_not ?_ | (refine condW_bool ?_ ?_ <;> intro _ <;> try (exfalso; omega)))
    | (refine facW_intro ?_; intro _)
    | refine Or.inl ?_
    | ((conv => whnf); first | (refine condW_dec ?_ ?_ <;> intro _ <;> try (exfalso; omega)) | refine condW_not ?_ | (refine condW_bool ?_ ?_ <;> intro _ <;> try (exfalso; omega)) | (refine nbC_t (fun _ => ?_) ?_) | (refine nbC_f ?_ (fun _ => ?_)))
    | refine And.intro (by first | omega | (simp only [Int.toNat_natCast] at *; omega) | (simp only [Nat.reduceAdd, Int.cast_ofNat_Int, true_and, and_true]; omega) | kernel_rfl) ?_
    | refine RegW.run ?_
    | fail
  all_goals try (have hp0 := str_pos (s := s) (by assumption))
  all_goals
    repeat' first
      | (refine codeW_cond rfl ?_; first | (refine condW_dec ?_ ?_ <;> intro _ <;> try (exfalso; omega)) | refine condW_not ?_ | (refine condW_bool ?_ ?_ <;> intro _ <;> try (exfalso; omega)))
      | (refine facW_intro ?_; intro _)
      | refine Or.inl ?_
      | ((conv => whnf); first | (refine condW_dec ?_ ?_ <;> intro _ <;> try (exfalso; omega)) | refine condW_not ?_ | (refine condW_bool ?_ ?_ <;> intro _ <;> try (exfalso; omega)) | (refine nbC_t (fun _ => ?_) ?_) | (refine nbC_f ?_ (fun _ => ?_)))
      | refine And.intro (by first | omega | (simp only [Int.toNat_natCast] at *; omega) | (simp only [Nat.reduceAdd, Int.cast_ofNat_Int, true_and, and_true]; omega) | kernel_rfl) ?_
      | refine RegW.run ?_
      | fail
  all_goals first
    | (rw [show szOk s = false by first | exact szOk_no1 (by assumption) | exact szOk_no2 (by assumption) (by assumption)]
       exact Dle.refl _ _)
    | skip
  all_goals
    refine ⟨Nat, fun k => [(5, i64 k), (4, i64 (rd s k))], fun k => [], [], fun k => [], fun k => k ≤ s.size ∧ allN k (fun i => decide (0 ≤ dgC s i)) = true, fun k => s.size - k, ⟨0, ⟨Nat.zero_le _, rfl⟩, ⟨[], ⟨by kernel_rfl, by kernel_rfl, by kernel_rfl, by kernel_rfl, by kernel_rfl, by kernel_rfl, by kernel_rfl⟩, (by repeat' first | exact trivial | exact rfl | kernel_rfl | exact Dle.of_eq rfl | exact MLe.of_eq rfl | exact Dle.i (by omega) | exact Dle.i (by simp only [Int.toNat_natCast] at *; omega) | exact Dle.nil | exact Dle.rc Dle.nil | exact Option.some_ne_none _ | exact Or.inl rfl | exact Or.inr trivial | omega | (simp only [Int.toNat_natCast] at *; omega) | (intro _ _ _ _; exact Dle.of_eq rfl) | refine And.intro ?_ ?_)⟩⟩, fun k hk => ?_⟩
    obtain ⟨g1, g2⟩ := hk
    have hb := rd_b g2
    have hd := dgC_le s k
    have e1 : rd s (k + 1) = min (32 * rd s k + dgC s k) 400000 := rfl
    have h1 := index32_sp E (bAt s ((k : Int)).toNat)
    have e2 : dgN (bAt s ((k : Int)).toNat).toNat = dgC s k := rfl
    rw [e2] at h1
    by_cases hlt : k < s.size
    · by_cases hng : dgC s k < 0
      · repeat' first
          | (refine codeW_cond rfl ?_; first | (refine condW_dec ?_ ?_ <;> intro _ <;> try (exfalso; omega)) | refine condW_not ?_ | (refine condW_bool ?_ ?_ <;> intro _ <;> try (exfalso; omega)))
          | (refine facW_intro ?_; intro _)
          | refine Or.inl ?_
          | ((conv => whnf); first | (refine condW_dec ?_ ?_ <;> intro _ <;> try (exfalso; omega)) | refine condW_not ?_ | (refine condW_bool ?_ ?_ <;> intro _ <;> try (exfalso; omega)) | (refine nbC_t (fun _ => ?_) ?_) | (refine nbC_f ?_ (fun _ => ?_)))
          | refine And.intro (by first | omega | (simp only [Int.toNat_natCast] at *; omega) | (simp only [Nat.reduceAdd, Int.cast_ofNat_Int, true_and, and_true]; omega) | kernel_rfl) ?_
          | refine RegW.run ?_
          | refine ⟨_, h1, ?_⟩
          | fail
        all_goals first
          | (exfalso; omega)
          | (rw [szOk_no3 hlt hng]; exact Dle.refl _ _)
          | trace_state
      · repeat' first
          | (refine codeW_cond rfl ?_; first | (refine condW_dec ?_ ?_ <;> intro _ <;> try (exfalso; omega)) | refine condW_not ?_ | (refine condW_bool ?_ ?_ <;> intro _ <;> try (exfalso; omega)))
          | (refine facW_intro ?_; intro _)
          | refine Or.inl ?_
          | ((conv => whnf); first | (refine condW_dec ?_ ?_ <;> intro _ <;> try (exfalso; omega)) | refine condW_not ?_ | (refine condW_bool ?_ ?_ <;> intro _ <;> try (exfalso; omega)) | (refine nbC_t (fun _ => ?_) ?_) | (refine nbC_f ?_ (fun _ => ?_)))
          | refine And.intro (by first | omega | (simp only [Int.toNat_natCast] at *; omega) | (simp only [Nat.reduceAdd, Int.cast_ofNat_Int, true_and, and_true]; omega) | kernel_rfl) ?_
          | refine RegW.run ?_
          | refine ⟨_, h1, ?_⟩
          | fail
        all_goals first
          | (exfalso; omega)
          | exact ⟨k + 1, ⟨by omega, allN_succ g2 (decide_eq_true (by omega))⟩, ⟨[], ⟨by kernel_rfl, by kernel_rfl, by kernel_rfl, by kernel_rfl, by kernel_rfl, by kernel_rfl, by kernel_rfl⟩, (by repeat' first | exact trivial | exact rfl | kernel_rfl | exact Dle.of_eq rfl | exact MLe.of_eq rfl | exact Dle.i (by omega) | exact Dle.i (by simp only [Int.toNat_natCast] at *; omega) | exact Dle.nil | exact Dle.rc Dle.nil | exact Option.some_ne_none _ | exact Or.inl rfl | exact Or.inr trivial | omega | (simp only [Int.toNat_natCast] at *; omega) | (intro _ _ _ _; exact Dle.of_eq rfl) | refine And.intro ?_ ?_)⟩, by first | omega | (dsimp only; omega)⟩
          | trace_state
    · obtain rfl : k = s.size := by omega
      have hok : szOk s = true := szOk_yes (by assumption) (by first | (rintro ⟨-, h2⟩; exact h2 (by assumption)) | (rintro ⟨h2, -⟩; exact absurd h2 (by assumption))) g2
      repeat' first
        | (refine codeW_cond rfl ?_; first | (refine condW_dec ?_ ?_ <;> intro _ <;> try (exfalso; omega)) | refine condW_not ?_ | (refine condW_bool ?_ ?_ <;> intro _ <;> try (exfalso; omega)))
        | (refine facW_intro ?_; intro _)
        | refine Or.inl ?_
        | ((conv => whnf); first | (refine condW_dec ?_ ?_ <;> intro _ <;> try (exfalso; omega)) | refine condW_not ?_ | (refine condW_bool ?_ ?_ <;> intro _ <;> try (exfalso; omega)) | (refine nbC_t (fun _ => ?_) ?_) | (refine nbC_f ?_ (fun _ => ?_)))
        | refine And.intro (by first | omega | (simp only [Int.toNat_natCast] at *; omega) | (simp only [Nat.reduceAdd, Int.cast_ofNat_Int, true_and, and_true]; omega) | kernel_rfl) ?_
        | refine RegW.run ?_
        | fail
      all_goals first
        | (rw [hok, if_pos rfl]; exact Dle.refl _ _)
        | trace_state
end
end md
end Go.Proofs.YtiiohopjkepkgaaGreatDoor
