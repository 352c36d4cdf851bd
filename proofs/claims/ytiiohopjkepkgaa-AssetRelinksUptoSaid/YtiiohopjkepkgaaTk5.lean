/-
  Tokens: a scanner's methods, on.
-/
import Derived.Test.YtiiohopjkepkgaaTk4
namespace Go.Proofs.Ytiiohopjkepkgaa
open Go.RowKit
set_option linter.unusedVariables false
set_option linter.unusedSimpArgs false
namespace tk
section
variable (E : Env)
set_option maxRecDepth 100000
set_option maxHeartbeats 2000000 in
theorem text_sp (s : ByteArray) (hs : s.size < 4294967281) (sc : Bool) (n : Nat) (g : Nat → Nat → DD) (a : Nat) (ha : a < s.size) (hq : at_ s a = 34 ∨ at_ s a = 39) :
    SpH (cx Try.prog mixed tyT_ok E) 36 [.ptr 3000 0, i64 a] (scH s sc 3000 2000 n g) (i64 (txt s (at_ s a) (a + 1))) (scH s sc 3000 2000 n g) := by
  obtain ⟨r, hr⟩ : ∃ r, r = txt s (at_ s a) (a + 1) := ⟨_, rfl⟩
  rw [← hr]
  have hq10 : ¬ at_ s a = 10 := by omega
  have hq92 : ¬ at_ s a = 92 := by omega
  refine SpH.body Try.func36 (by kernel_rfl) rfl (by kernel_rfl) (by kernel_rfl) (by kernel_rfl) ?_
  repeat' first
    | (refine facW_intro ?_; intro _)
    | refine Or.inl ?_
    | ((conv => whnf); first | (refine condW_dec ?_ ?_ <;> intro _ <;> try (exfalso; omega)) | refine condW_not ?_ | (refine condW_bool ?_ ?_ <;> intro _ <;> try (exfalso; omega)) | (refine nbC_t (fun _ => ?_) ?_) | (refine nbC_f ?_ (fun _ => ?_)))
    | refine And.intro (by first | omega | (simp only [Int.toNat_natCast] at *; omega) | (simp only [Nat.reduceAdd, Int.cast_ofNat_Int, true_and, and_true]; omega) | kernel_rfl) ?_
    | refine RegW.run ?_
    | fail
  refine ⟨Nat, fun k => [(1, i64 k)], fun k => [], [3000, 2000], fun k => [], fun k => k ≤ s.size ∧ r = txt s (at_ s a) k, fun k => s.size - k, ⟨a + 1, ⟨by omega, hr⟩, ⟨[], ⟨by kernel_rfl, by kernel_rfl, by kernel_rfl, by kernel_rfl, by kernel_rfl, by kernel_rfl, by kernel_rfl⟩, (by repeat' first | (exact Dle.i (by omega)) | exact trivial | exact rfl | kernel_rfl | exact Dle.of_eq rfl | exact MLe.of_eq rfl | exact Dle.i (by omega) | exact Dle.i (by simp only [Int.toNat_natCast] at *; omega) | exact Dle.nil | exact Dle.rc Dle.nil | exact Option.some_ne_none _ | exact Or.inl rfl | exact Or.inr trivial | omega | (simp only [Int.toNat_natCast] at *; omega) | (intro _ _ _ _; exact Dle.of_eq rfl) | refine And.intro ?_ ?_)⟩⟩, fun k hk => ?_⟩
  obtain ⟨hk, hK⟩ := hk
  have e0 : ∀ j : Nat, (bAt s ((j : Int)).toNat).toNat = at_ s j := fun j => rfl
  have e1 : (bAt s ((k : Int) + 1).toNat).toNat = at_ s (k + 1) := by rw [show ((k : Int) + 1).toNat = k + 1 by omega]; rfl
  have f0 : ¬ k < s.size → r = -1 := fun h => by rw [hK, txt_end h]
  have f1 : k < s.size → at_ s k = 10 → r = -1 := fun h h2 => by rw [hK, txt_nl h h2]
  have f2 : k < s.size → at_ s k = at_ s a → r = (k : Int) + 1 := fun h h2 => by rw [hK, txt_q h (by omega) h2]
  have f3 : k < s.size → at_ s k = 92 → ¬ (k + 1 < s.size ∧ ¬ at_ s (k + 1) = 10) → r = txt s (at_ s a) (k + 1) := fun h h2 h3 => by rw [hK, txt_b1 h (by omega) h2 h3]
  have f4 : k < s.size → at_ s k = 92 → k + 1 < s.size → ¬ at_ s (k + 1) = 10 → r = txt s (at_ s a) (k + 2) := fun h h2 h3 h4 => by rw [hK, txt_bs h (by omega) h2 h3 h4]
  have f5 : k < s.size → ¬ at_ s k = 10 → ¬ at_ s k = at_ s a → ¬ at_ s k = 92 → r = txt s (at_ s a) (k + 1) := fun h h2 h3 h4 => by rw [hK, txt_go h h2 h3 h4]
  repeat' first
    | (refine facW_intro ?_; intro _)
    | refine Or.inl ?_
    | ((conv => whnf); first | (refine condW_dec ?_ ?_ <;> intro _ <;> try (exfalso; omega)) | refine condW_not ?_ | (refine condW_bool ?_ ?_ <;> intro _ <;> try (exfalso; omega)) | (refine nbC_t (fun _ => ?_) ?_) | (refine nbC_f ?_ (fun _ => ?_)))
    | refine And.intro (by first | omega | (simp only [Int.toNat_natCast] at *; omega) | (simp only [Nat.reduceAdd, Int.cast_ofNat_Int, true_and, and_true]; omega) | kernel_rfl) ?_
    | refine RegW.run ?_
    | fail
  all_goals simp only [e0, e1] at *
  all_goals first
    | (have h9 := f0 (by omega)
       exact ⟨[(3000, .cells [dS s, dB sc, .own 2000 4 0 n]), (2000, .row 62 n g)], [], rfl, ⟨[], ⟨by kernel_rfl, by kernel_rfl, by kernel_rfl, by kernel_rfl, by kernel_rfl, by kernel_rfl, by kernel_rfl⟩, (by repeat' first | (exact Dle.i (by omega)) | exact trivial | exact rfl | kernel_rfl | exact Dle.of_eq rfl | exact MLe.of_eq rfl | exact Dle.i (by omega) | exact Dle.i (by simp only [Int.toNat_natCast] at *; omega) | exact Dle.nil | exact Dle.rc Dle.nil | exact Option.some_ne_none _ | exact Or.inl rfl | exact Or.inr trivial | omega | (simp only [Int.toNat_natCast] at *; omega) | (intro _ _ _ _; exact Dle.of_eq rfl) | refine And.intro ?_ ?_)⟩, rfl⟩)
    | (have h9 := f1 (by omega) (by omega)
       exact ⟨[(3000, .cells [dS s, dB sc, .own 2000 4 0 n]), (2000, .row 62 n g)], [], rfl, ⟨[], ⟨by kernel_rfl, by kernel_rfl, by kernel_rfl, by kernel_rfl, by kernel_rfl, by kernel_rfl, by kernel_rfl⟩, (by repeat' first | (exact Dle.i (by omega)) | exact trivial | exact rfl | kernel_rfl | exact Dle.of_eq rfl | exact MLe.of_eq rfl | exact Dle.i (by omega) | exact Dle.i (by simp only [Int.toNat_natCast] at *; omega) | exact Dle.nil | exact Dle.rc Dle.nil | exact Option.some_ne_none _ | exact Or.inl rfl | exact Or.inr trivial | omega | (simp only [Int.toNat_natCast] at *; omega) | (intro _ _ _ _; exact Dle.of_eq rfl) | refine And.intro ?_ ?_)⟩, rfl⟩)
    | (have h9 := f2 (by omega) (by omega)
       exact ⟨[(3000, .cells [dS s, dB sc, .own 2000 4 0 n]), (2000, .row 62 n g)], [], rfl, ⟨[], ⟨by kernel_rfl, by kernel_rfl, by kernel_rfl, by kernel_rfl, by kernel_rfl, by kernel_rfl, by kernel_rfl⟩, (by repeat' first | (exact Dle.i (by omega)) | exact trivial | exact rfl | kernel_rfl | exact Dle.of_eq rfl | exact MLe.of_eq rfl | exact Dle.i (by omega) | exact Dle.i (by simp only [Int.toNat_natCast] at *; omega) | exact Dle.nil | exact Dle.rc Dle.nil | exact Option.some_ne_none _ | exact Or.inl rfl | exact Or.inr trivial | omega | (simp only [Int.toNat_natCast] at *; omega) | (intro _ _ _ _; exact Dle.of_eq rfl) | refine And.intro ?_ ?_)⟩, rfl⟩)
    | exact ⟨k + 2, ⟨by omega, f4 (by omega) (by omega) (by omega) (by omega)⟩, ⟨[], ⟨by kernel_rfl, by kernel_rfl, by kernel_rfl, by kernel_rfl, by kernel_rfl, by kernel_rfl, by kernel_rfl⟩, (by repeat' first | (exact Dle.i (by omega)) | exact trivial | exact rfl | kernel_rfl | exact Dle.of_eq rfl | exact MLe.of_eq rfl | exact Dle.i (by omega) | exact Dle.i (by simp only [Int.toNat_natCast] at *; omega) | exact Dle.nil | exact Dle.rc Dle.nil | exact Option.some_ne_none _ | exact Or.inl rfl | exact Or.inr trivial | omega | (simp only [Int.toNat_natCast] at *; omega) | (intro _ _ _ _; exact Dle.of_eq rfl) | refine And.intro ?_ ?_)⟩, by first | omega | (dsimp only; omega)⟩
    | exact ⟨k + 1, ⟨by omega, f3 (by omega) (by omega) (by omega)⟩, ⟨[], ⟨by kernel_rfl, by kernel_rfl, by kernel_rfl, by kernel_rfl, by kernel_rfl, by kernel_rfl, by kernel_rfl⟩, (by repeat' first | (exact Dle.i (by omega)) | exact trivial | exact rfl | kernel_rfl | exact Dle.of_eq rfl | exact MLe.of_eq rfl | exact Dle.i (by omega) | exact Dle.i (by simp only [Int.toNat_natCast] at *; omega) | exact Dle.nil | exact Dle.rc Dle.nil | exact Option.some_ne_none _ | exact Or.inl rfl | exact Or.inr trivial | omega | (simp only [Int.toNat_natCast] at *; omega) | (intro _ _ _ _; exact Dle.of_eq rfl) | refine And.intro ?_ ?_)⟩, by first | omega | (dsimp only; omega)⟩
    | exact ⟨k + 1, ⟨by omega, f5 (by omega) (by omega) (by omega) (by omega)⟩, ⟨[], ⟨by kernel_rfl, by kernel_rfl, by kernel_rfl, by kernel_rfl, by kernel_rfl, by kernel_rfl, by kernel_rfl⟩, (by repeat' first | (exact Dle.i (by omega)) | exact trivial | exact rfl | kernel_rfl | exact Dle.of_eq rfl | exact MLe.of_eq rfl | exact Dle.i (by omega) | exact Dle.i (by simp only [Int.toNat_natCast] at *; omega) | exact Dle.nil | exact Dle.rc Dle.nil | exact Option.some_ne_none _ | exact Or.inl rfl | exact Or.inr trivial | omega | (simp only [Int.toNat_natCast] at *; omega) | (intro _ _ _ _; exact Dle.of_eq rfl) | refine And.intro ?_ ?_)⟩, by first | omega | (dsimp only; omega)⟩
    | trace_state
theorem isMark_sp (s : ByteArray) (sc : Bool) (n : Nat) (g : Nat → Nat → DD) (c : UInt8) :
    SpH (cx Try.prog mixed tyT_ok E) 38 [.ptr 3000 0, .v (.int .u8 (c.toNat : Int))] (scH s sc 3000 2000 n g) (dB (markB sc c.toNat)) (scH s sc 3000 2000 n g) := by
  have h1 := isScriptWord_sp E c.toNat
  have h2 := idxB_sp E ⟨#[123, 125, 40, 41, 91, 93, 59, 58, 44, 62]⟩ c
  have h3 := mk_c c
  have h4 : (⟨#[123, 125, 40, 41, 91, 93, 59, 58, 44, 62]⟩ : ByteArray).data.toList = [123, 125, 40, 41, 91, 93, 59, 58, 44, 62] := rfl
  rw [h4] at h2
  unfold markB
  generalize Lib.indexByte [123, 125, 40, 41, 91, 93, 59, 58, 44, 62] c = y at *
  rw [← h3]
  generalize wordB c.toNat = b at *
  cases sc
  · refine SpH.body Try.func38 (by kernel_rfl) rfl (by kernel_rfl) (by kernel_rfl) (by kernel_rfl) ?_
    repeat' first
      | (refine facW_intro ?_; intro _)
      | refine Or.inl ?_
      | ((conv => whnf); first | (refine condW_dec ?_ ?_ <;> intro _ <;> try (exfalso; omega)) | refine condW_not ?_ | (refine condW_bool ?_ ?_ <;> intro _ <;> try (exfalso; omega)) | (refine nbC_t (fun _ => ?_) ?_) | (refine nbC_f ?_ (fun _ => ?_)))
      | refine And.intro (by first | omega | (simp only [Int.toNat_natCast] at *; omega) | (simp only [Nat.reduceAdd, Int.cast_ofNat_Int, true_and, and_true]; omega) | kernel_rfl) ?_
      | refine RegW.run ?_
      | refine ⟨_, h1, ?_⟩
      | refine ⟨_, h2, ?_⟩
      | fail
    all_goals first
      | (exfalso; rename_i h; exact h rfl)
      | exact ⟨[(3000, .cells [dS s, dB false, .own 2000 4 0 n]), (2000, .row 62 n g)], [], rfl, ⟨[], ⟨by kernel_rfl, by kernel_rfl, by kernel_rfl, by kernel_rfl, by kernel_rfl, by kernel_rfl, by kernel_rfl⟩, (by repeat' first | (exact Dle.bo (by simp)) | exact trivial | exact rfl | kernel_rfl | exact Dle.of_eq rfl | exact MLe.of_eq rfl | exact Dle.i (by omega) | exact Dle.i (by simp only [Int.toNat_natCast] at *; omega) | exact Dle.nil | exact Dle.rc Dle.nil | exact Option.some_ne_none _ | exact Or.inl rfl | exact Or.inr trivial | omega | (simp only [Int.toNat_natCast] at *; omega) | (intro _ _ _ _; exact Dle.of_eq rfl) | refine And.intro ?_ ?_)⟩, rfl⟩
      | trace_state
  · refine SpH.body Try.func38 (by kernel_rfl) rfl (by kernel_rfl) (by kernel_rfl) (by kernel_rfl) ?_
    repeat' first
      | (refine facW_intro ?_; intro _)
      | refine Or.inl ?_
      | ((conv => whnf); first | (refine condW_dec ?_ ?_ <;> intro _ <;> try (exfalso; omega)) | refine condW_not ?_ | (refine condW_bool ?_ ?_ <;> intro _ <;> try (exfalso; omega)) | (refine nbC_t (fun _ => ?_) ?_) | (refine nbC_f ?_ (fun _ => ?_)))
      | refine And.intro (by first | omega | (simp only [Int.toNat_natCast] at *; omega) | (simp only [Nat.reduceAdd, Int.cast_ofNat_Int, true_and, and_true]; omega) | kernel_rfl) ?_
      | refine RegW.run ?_
      | refine ⟨_, h1, ?_⟩
      | refine ⟨_, h2, ?_⟩
      | fail
    all_goals first
      | (exfalso; rename_i h; exact h rfl)
      | exact ⟨[(3000, .cells [dS s, dB true, .own 2000 4 0 n]), (2000, .row 62 n g)], [], rfl, ⟨[], ⟨by kernel_rfl, by kernel_rfl, by kernel_rfl, by kernel_rfl, by kernel_rfl, by kernel_rfl, by kernel_rfl⟩, (by repeat' first | (exact Dle.bo (by simp)) | exact trivial | exact rfl | kernel_rfl | exact Dle.of_eq rfl | exact MLe.of_eq rfl | exact Dle.i (by omega) | exact Dle.i (by simp only [Int.toNat_natCast] at *; omega) | exact Dle.nil | exact Dle.rc Dle.nil | exact Option.some_ne_none _ | exact Or.inl rfl | exact Or.inr trivial | omega | (simp only [Int.toNat_natCast] at *; omega) | (intro _ _ _ _; exact Dle.of_eq rfl) | refine And.intro ?_ ?_)⟩, rfl⟩
      | trace_state
theorem begins_sp (hML : ∀ w, E.G w → ML w) (s : ByteArray) (hs : s.size < 4294967281) (sc : Bool) (n : Nat) (g : Nat → Nat → DD) (i : Nat) (hi : i < s.size) :
    SpH (cx Try.prog mixed tyT_ok E) 39 [.ptr 3000 0, i64 i] (scH s sc 3000 2000 n g) (dB (begB cmE s sc i)) (scH s sc 3000 2000 n g) := by
  have h1 : Sp (cx Try.prog mixed tyT_ok E) 32 [.v (.int .u8 ((bAt s ((i : Int)).toNat).toNat : Int))] (dB (blkB (at_ s i))) := isBlank_sp E (at_ s i)
  have h2 : Sp (cx Try.prog mixed tyT_ok E) 31 [.v (.int .u8 ((bAt s ((i : Int)).toNat).toNat : Int))] (dB (badB (at_ s i))) := badByte_sp E (at_ s i)
  have h3 : SpH (cx Try.prog mixed tyT_ok E) 38 [.ptr 3000 0, .v (.int .u8 ((bAt s ((i : Int)).toNat).toNat : Int))] (scH s sc 3000 2000 n g) (dB (markB sc (at_ s i))) (scH s sc 3000 2000 n g) := isMark_sp E s sc n g (bAt s i)
  have h4 := comment_sp E hML s hs sc n g i (by omega)
  have e0 : (bAt s ((i : Int)).toNat).toNat = at_ s i := rfl
  have k34 : ((at_ s i : Nat) : Int) = 34 ↔ at_ s i = 34 := by omega
  have k39 : ((at_ s i : Nat) : Int) = 39 ↔ at_ s i = 39 := by omega
  unfold begB
  generalize blkB (at_ s i) = b1 at *
  generalize badB (at_ s i) = b2 at *
  generalize markB sc (at_ s i) = b3 at *
  generalize cmE s sc i = y at *
  refine SpH.body Try.func39 (by kernel_rfl) rfl (by kernel_rfl) (by kernel_rfl) (by kernel_rfl) ?_
  repeat' first
    | refine Or.inr ⟨_, _, _, h3, by kernel_rfl, (by repeat' first | exact trivial | exact rfl | kernel_rfl | exact Dle.of_eq rfl | exact MLe.of_eq rfl | exact Dle.i (by omega) | exact Dle.i (by simp only [Int.toNat_natCast] at *; omega) | exact Dle.nil | exact Dle.rc Dle.nil | exact Option.some_ne_none _ | exact Or.inl rfl | exact Or.inr trivial | omega | (simp only [Int.toNat_natCast] at *; omega) | (intro _ _ _ _; exact Dle.of_eq rfl) | refine And.intro ?_ ?_), ?_⟩
    | refine Or.inr ⟨_, _, _, h4, by kernel_rfl, (by repeat' first | exact trivial | exact rfl | kernel_rfl | exact Dle.of_eq rfl | exact MLe.of_eq rfl | exact Dle.i (by omega) | exact Dle.i (by simp only [Int.toNat_natCast] at *; omega) | exact Dle.nil | exact Dle.rc Dle.nil | exact Option.some_ne_none _ | exact Or.inl rfl | exact Or.inr trivial | omega | (simp only [Int.toNat_natCast] at *; omega) | (intro _ _ _ _; exact Dle.of_eq rfl) | refine And.intro ?_ ?_), ?_⟩
    | (refine facW_intro ?_; intro _)
    | refine Or.inl ?_
    | ((conv => whnf); first | (refine condW_dec ?_ ?_ <;> intro _ <;> try (exfalso; omega)) | refine condW_not ?_ | (refine condW_bool ?_ ?_ <;> intro _ <;> try (exfalso; omega)) | (refine nbC_t (fun _ => ?_) ?_) | (refine nbC_f ?_ (fun _ => ?_)))
    | refine And.intro (by first | omega | (simp only [Int.toNat_natCast] at *; omega) | (simp only [Nat.reduceAdd, Int.cast_ofNat_Int, true_and, and_true]; omega) | kernel_rfl) ?_
    | refine RegW.run ?_
    | refine ⟨_, h1, ?_⟩
    | refine ⟨_, h2, ?_⟩
    | fail
  all_goals simp only [e0, k34, k39] at *
  all_goals first
    | exact ⟨[(3000, .cells [dS s, dB sc, .own 2000 4 0 n]), (2000, .row 62 n g)], [], rfl, ⟨[], ⟨by kernel_rfl, by kernel_rfl, by kernel_rfl, by kernel_rfl, by kernel_rfl, by kernel_rfl, by kernel_rfl⟩, (by repeat' first | (exact Dle.bo (by first | (simp_all; done) | (simp_all; omega))) | exact trivial | exact rfl | kernel_rfl | exact Dle.of_eq rfl | exact MLe.of_eq rfl | exact Dle.i (by omega) | exact Dle.i (by simp only [Int.toNat_natCast] at *; omega) | exact Dle.nil | exact Dle.rc Dle.nil | exact Option.some_ne_none _ | exact Or.inl rfl | exact Or.inr trivial | omega | (simp only [Int.toNat_natCast] at *; omega) | (intro _ _ _ _; exact Dle.of_eq rfl) | refine And.intro ?_ ?_)⟩, rfl⟩
    | trace_state
end
end tk
end Go.Proofs.Ytiiohopjkepkgaa
