/-
  Tokens: runs of blanks; a token more.
-/
import Derived.Test.YtiiohopjkepkgaaTk5
namespace Go.Proofs.Ytiiohopjkepkgaa
open Go.RowKit
set_option linter.unusedVariables false
set_option linter.unusedSimpArgs false
namespace tk
section
variable (E : Env)
set_option maxRecDepth 100000
set_option maxHeartbeats 2000000 in
theorem blank_sp (hML : ∀ w, E.G w → ML w) (s : ByteArray) (hs : s.size < 4294967281) (sc : Bool) (n : Nat) (g : Nat → Nat → DD) (i : Nat) (hi : i ≤ s.size) :
    SpH (cx Try.prog mixed tyT_ok E) 34 [.ptr 3000 0, i64 i] (scH s sc 3000 2000 n g) (.tup [i64 (bl cmE s sc i).i, i64 (bl cmE s sc i).at', i64 (bl cmE s sc i).e]) (scH s sc 3000 2000 n g) := by
  obtain ⟨r, hr⟩ : ∃ r, r = bl cmE s sc i := ⟨_, rfl⟩
  rw [← hr]
  refine SpH.body Try.func34 (by kernel_rfl) rfl (by kernel_rfl) (by kernel_rfl) (by kernel_rfl) ?_
  repeat' first
    | (refine facW_intro ?_; intro _)
    | refine Or.inl ?_
    | ((conv => whnf); first | (refine condW_dec ?_ ?_ <;> intro _ <;> try (exfalso; omega)) | refine condW_not ?_ | (refine condW_bool ?_ ?_ <;> intro _ <;> try (exfalso; omega)) | (refine nbC_t (fun _ => ?_) ?_) | (refine nbC_f ?_ (fun _ => ?_)))
    | refine And.intro (by first | omega | (simp only [Int.toNat_natCast] at *; omega) | (simp only [Nat.reduceAdd, Int.cast_ofNat_Int, true_and, and_true]; omega) | kernel_rfl) ?_
    | refine RegW.run ?_
    | fail
  refine ⟨Nat, fun k => [(1, i64 k)], fun k => [], [3000, 2000], fun k => [], fun k => k ≤ s.size ∧ r = bl cmE s sc k, fun k => s.size - k, ⟨i, ⟨hi, hr⟩, ⟨[], ⟨by kernel_rfl, by kernel_rfl, by kernel_rfl, by kernel_rfl, by kernel_rfl, by kernel_rfl, by kernel_rfl⟩, (by repeat' first | exact trivial | exact rfl | kernel_rfl | exact Dle.of_eq rfl | exact MLe.of_eq rfl | exact Dle.i (by omega) | exact Dle.i (by simp only [Int.toNat_natCast] at *; omega) | exact Dle.nil | exact Dle.rc Dle.nil | exact Option.some_ne_none _ | exact Or.inl rfl | exact Or.inr trivial | omega | (simp only [Int.toNat_natCast] at *; omega) | (intro _ _ _ _; exact Dle.of_eq rfl) | refine And.intro ?_ ?_)⟩⟩, fun k hk => ?_⟩
  obtain ⟨hk, hK⟩ := hk
  by_cases hlt : k < s.size
  · have h1 : Sp (cx Try.prog mixed tyT_ok E) 32 [.v (.int .u8 ((bAt s ((k : Int)).toNat).toNat : Int))] (dB (blkB (at_ s k))) := isBlank_sp E (at_ s k)
    have h2 := comment_sp E hML s hs sc n g k (by omega)
    have hok := cmE_ok s sc k hlt
    cases hb : blkB (at_ s k) <;> rw [hb] at h1
    · by_cases hc0 : cmE s sc k < 0
      · have e1 : r = ⟨k, 0, 0⟩ := by rw [hK, bl_no hlt hb hc0]
        generalize cmE s sc k = y at *
        subst e1
        repeat' first
          | refine Or.inr ⟨_, _, _, h2, by kernel_rfl, (by repeat' first | exact trivial | exact rfl | kernel_rfl | exact Dle.of_eq rfl | exact MLe.of_eq rfl | exact Dle.i (by omega) | exact Dle.i (by simp only [Int.toNat_natCast] at *; omega) | exact Dle.nil | exact Dle.rc Dle.nil | exact Option.some_ne_none _ | exact Or.inl rfl | exact Or.inr trivial | omega | (simp only [Int.toNat_natCast] at *; omega) | (intro _ _ _ _; exact Dle.of_eq rfl) | refine And.intro ?_ ?_), ?_⟩
          | (refine facW_intro ?_; intro _)
          | refine Or.inl ?_
          | ((conv => whnf); first | (refine condW_dec ?_ ?_ <;> intro _ <;> try (exfalso; omega)) | refine condW_not ?_ | (refine condW_bool ?_ ?_ <;> intro _ <;> try (exfalso; omega)) | (refine nbC_t (fun _ => ?_) ?_) | (refine nbC_f ?_ (fun _ => ?_)))
          | refine And.intro (by first | omega | (simp only [Int.toNat_natCast] at *; omega) | (simp only [Nat.reduceAdd, Int.cast_ofNat_Int, true_and, and_true]; omega) | kernel_rfl) ?_
          | refine RegW.run ?_
          | refine ⟨_, h1, ?_⟩
          | fail
        all_goals first
          | (exfalso; rename_i h; exact h rfl)
          | exact ⟨[(3000, .cells [dS s, dB sc, .own 2000 4 0 n]), (2000, .row 62 n g)], [], rfl, ⟨[], ⟨by kernel_rfl, by kernel_rfl, by kernel_rfl, by kernel_rfl, by kernel_rfl, by kernel_rfl, by kernel_rfl⟩, (by repeat' first | (exact Dle.i (by omega)) | exact trivial | exact rfl | kernel_rfl | exact Dle.of_eq rfl | exact MLe.of_eq rfl | exact Dle.i (by omega) | exact Dle.i (by simp only [Int.toNat_natCast] at *; omega) | exact Dle.nil | exact Dle.rc Dle.nil | exact Option.some_ne_none _ | exact Or.inl rfl | exact Or.inr trivial | omega | (simp only [Int.toNat_natCast] at *; omega) | (intro _ _ _ _; exact Dle.of_eq rfl) | refine And.intro ?_ ?_)⟩, rfl⟩
          | trace_state
      · by_cases hc1 : (s.size : Int) < cmE s sc k
        · have e1 : r = ⟨0, k, 8⟩ := by rw [hK, bl_open hlt hb hc1]
          generalize cmE s sc k = y at *
          subst e1
          repeat' first
            | refine Or.inr ⟨_, _, _, h2, by kernel_rfl, (by repeat' first | exact trivial | exact rfl | kernel_rfl | exact Dle.of_eq rfl | exact MLe.of_eq rfl | exact Dle.i (by omega) | exact Dle.i (by simp only [Int.toNat_natCast] at *; omega) | exact Dle.nil | exact Dle.rc Dle.nil | exact Option.some_ne_none _ | exact Or.inl rfl | exact Or.inr trivial | omega | (simp only [Int.toNat_natCast] at *; omega) | (intro _ _ _ _; exact Dle.of_eq rfl) | refine And.intro ?_ ?_), ?_⟩
            | (refine facW_intro ?_; intro _)
            | refine Or.inl ?_
            | ((conv => whnf); first | (refine condW_dec ?_ ?_ <;> intro _ <;> try (exfalso; omega)) | refine condW_not ?_ | (refine condW_bool ?_ ?_ <;> intro _ <;> try (exfalso; omega)) | (refine nbC_t (fun _ => ?_) ?_) | (refine nbC_f ?_ (fun _ => ?_)))
            | refine And.intro (by first | omega | (simp only [Int.toNat_natCast] at *; omega) | (simp only [Nat.reduceAdd, Int.cast_ofNat_Int, true_and, and_true]; omega) | kernel_rfl) ?_
            | refine RegW.run ?_
            | refine ⟨_, h1, ?_⟩
            | fail
          all_goals first
            | (exfalso; rename_i h; exact h rfl)
            | exact ⟨[(3000, .cells [dS s, dB sc, .own 2000 4 0 n]), (2000, .row 62 n g)], [], rfl, ⟨[], ⟨by kernel_rfl, by kernel_rfl, by kernel_rfl, by kernel_rfl, by kernel_rfl, by kernel_rfl, by kernel_rfl⟩, (by repeat' first | (exact Dle.i (by omega)) | exact trivial | exact rfl | kernel_rfl | exact Dle.of_eq rfl | exact MLe.of_eq rfl | exact Dle.i (by omega) | exact Dle.i (by simp only [Int.toNat_natCast] at *; omega) | exact Dle.nil | exact Dle.rc Dle.nil | exact Option.some_ne_none _ | exact Or.inl rfl | exact Or.inr trivial | omega | (simp only [Int.toNat_natCast] at *; omega) | (intro _ _ _ _; exact Dle.of_eq rfl) | refine And.intro ?_ ?_)⟩, rfl⟩
            | trace_state
        · obtain ⟨m, hm⟩ := Int.eq_ofNat_of_zero_le (show 0 ≤ cmE s sc k by omega)
          have h3 := checked_sp E s hs sc n g k m (by omega)
          have hgo := bl_go (c := cmE) (sc := sc) hlt hb (by omega) (by omega)
          have hbad := bl_bad (c := cmE) (sc := sc) hlt hb (by omega) (by omega)
          rw [hm] at h2 hgo hbad
          rw [show ((m : Int)).toNat = m from rfl] at hgo hbad
          by_cases hc2 : 0 ≤ chk s k m
          · have e1 : r = ⟨0, chk s k m, 9⟩ := by rw [hK, hbad hc2]
            generalize chk s k m = z at *
            subst e1
            repeat' first
              | refine Or.inr ⟨_, _, _, h2, by kernel_rfl, (by repeat' first | exact trivial | exact rfl | kernel_rfl | exact Dle.of_eq rfl | exact MLe.of_eq rfl | exact Dle.i (by omega) | exact Dle.i (by simp only [Int.toNat_natCast] at *; omega) | exact Dle.nil | exact Dle.rc Dle.nil | exact Option.some_ne_none _ | exact Or.inl rfl | exact Or.inr trivial | omega | (simp only [Int.toNat_natCast] at *; omega) | (intro _ _ _ _; exact Dle.of_eq rfl) | refine And.intro ?_ ?_), ?_⟩
              | refine Or.inr ⟨_, _, _, h3, by kernel_rfl, (by repeat' first | exact trivial | exact rfl | kernel_rfl | exact Dle.of_eq rfl | exact MLe.of_eq rfl | exact Dle.i (by omega) | exact Dle.i (by simp only [Int.toNat_natCast] at *; omega) | exact Dle.nil | exact Dle.rc Dle.nil | exact Option.some_ne_none _ | exact Or.inl rfl | exact Or.inr trivial | omega | (simp only [Int.toNat_natCast] at *; omega) | (intro _ _ _ _; exact Dle.of_eq rfl) | refine And.intro ?_ ?_), ?_⟩
              | (refine facW_intro ?_; intro _)
              | refine Or.inl ?_
              | ((conv => whnf); first | (refine condW_dec ?_ ?_ <;> intro _ <;> try (exfalso; omega)) | refine condW_not ?_ | (refine condW_bool ?_ ?_ <;> intro _ <;> try (exfalso; omega)) | (refine nbC_t (fun _ => ?_) ?_) | (refine nbC_f ?_ (fun _ => ?_)))
              | refine And.intro (by first | omega | (simp only [Int.toNat_natCast] at *; omega) | (simp only [Nat.reduceAdd, Int.cast_ofNat_Int, true_and, and_true]; omega) | kernel_rfl) ?_
              | refine RegW.run ?_
              | refine ⟨_, h1, ?_⟩
              | fail
            all_goals first
              | (exfalso; rename_i h; exact h rfl)
              | exact ⟨[(3000, .cells [dS s, dB sc, .own 2000 4 0 n]), (2000, .row 62 n g)], [], rfl, ⟨[], ⟨by kernel_rfl, by kernel_rfl, by kernel_rfl, by kernel_rfl, by kernel_rfl, by kernel_rfl, by kernel_rfl⟩, (by repeat' first | (exact Dle.i (by omega)) | exact trivial | exact rfl | kernel_rfl | exact Dle.of_eq rfl | exact MLe.of_eq rfl | exact Dle.i (by omega) | exact Dle.i (by simp only [Int.toNat_natCast] at *; omega) | exact Dle.nil | exact Dle.rc Dle.nil | exact Option.some_ne_none _ | exact Or.inl rfl | exact Or.inr trivial | omega | (simp only [Int.toNat_natCast] at *; omega) | (intro _ _ _ _; exact Dle.of_eq rfl) | refine And.intro ?_ ?_)⟩, rfl⟩
              | trace_state
          · have e1 : r = bl cmE s sc m := by rw [hK, hgo (by omega) (by omega)]
            generalize chk s k m = z at *
            repeat' first
              | refine Or.inr ⟨_, _, _, h2, by kernel_rfl, (by repeat' first | exact trivial | exact rfl | kernel_rfl | exact Dle.of_eq rfl | exact MLe.of_eq rfl | exact Dle.i (by omega) | exact Dle.i (by simp only [Int.toNat_natCast] at *; omega) | exact Dle.nil | exact Dle.rc Dle.nil | exact Option.some_ne_none _ | exact Or.inl rfl | exact Or.inr trivial | omega | (simp only [Int.toNat_natCast] at *; omega) | (intro _ _ _ _; exact Dle.of_eq rfl) | refine And.intro ?_ ?_), ?_⟩
              | refine Or.inr ⟨_, _, _, h3, by kernel_rfl, (by repeat' first | exact trivial | exact rfl | kernel_rfl | exact Dle.of_eq rfl | exact MLe.of_eq rfl | exact Dle.i (by omega) | exact Dle.i (by simp only [Int.toNat_natCast] at *; omega) | exact Dle.nil | exact Dle.rc Dle.nil | exact Option.some_ne_none _ | exact Or.inl rfl | exact Or.inr trivial | omega | (simp only [Int.toNat_natCast] at *; omega) | (intro _ _ _ _; exact Dle.of_eq rfl) | refine And.intro ?_ ?_), ?_⟩
              | (refine facW_intro ?_; intro _)
              | refine Or.inl ?_
              | ((conv => whnf); first | (refine condW_dec ?_ ?_ <;> intro _ <;> try (exfalso; omega)) | refine condW_not ?_ | (refine condW_bool ?_ ?_ <;> intro _ <;> try (exfalso; omega)) | (refine nbC_t (fun _ => ?_) ?_) | (refine nbC_f ?_ (fun _ => ?_)))
              | refine And.intro (by first | omega | (simp only [Int.toNat_natCast] at *; omega) | (simp only [Nat.reduceAdd, Int.cast_ofNat_Int, true_and, and_true]; omega) | kernel_rfl) ?_
              | refine RegW.run ?_
              | refine ⟨_, h1, ?_⟩
              | fail
            all_goals first
              | (exfalso; rename_i h; exact h rfl)
              | exact ⟨m, ⟨by omega, e1⟩, ⟨[], ⟨by kernel_rfl, by kernel_rfl, by kernel_rfl, by kernel_rfl, by kernel_rfl, by kernel_rfl, by kernel_rfl⟩, (by repeat' first | exact trivial | exact rfl | kernel_rfl | exact Dle.of_eq rfl | exact MLe.of_eq rfl | exact Dle.i (by omega) | exact Dle.i (by simp only [Int.toNat_natCast] at *; omega) | exact Dle.nil | exact Dle.rc Dle.nil | exact Option.some_ne_none _ | exact Or.inl rfl | exact Or.inr trivial | omega | (simp only [Int.toNat_natCast] at *; omega) | (intro _ _ _ _; exact Dle.of_eq rfl) | refine And.intro ?_ ?_)⟩, by first | omega | (dsimp only; omega)⟩
              | trace_state
    · have e1 : r = bl cmE s sc (k + 1) := by rw [hK, bl_blk hlt hb]
      repeat' first
        | refine Or.inr ⟨_, _, _, h2, by kernel_rfl, (by repeat' first | exact trivial | exact rfl | kernel_rfl | exact Dle.of_eq rfl | exact MLe.of_eq rfl | exact Dle.i (by omega) | exact Dle.i (by simp only [Int.toNat_natCast] at *; omega) | exact Dle.nil | exact Dle.rc Dle.nil | exact Option.some_ne_none _ | exact Or.inl rfl | exact Or.inr trivial | omega | (simp only [Int.toNat_natCast] at *; omega) | (intro _ _ _ _; exact Dle.of_eq rfl) | refine And.intro ?_ ?_), ?_⟩
        | (refine facW_intro ?_; intro _)
        | refine Or.inl ?_
        | ((conv => whnf); first | (refine condW_dec ?_ ?_ <;> intro _ <;> try (exfalso; omega)) | refine condW_not ?_ | (refine condW_bool ?_ ?_ <;> intro _ <;> try (exfalso; omega)) | (refine nbC_t (fun _ => ?_) ?_) | (refine nbC_f ?_ (fun _ => ?_)))
        | refine And.intro (by first | omega | (simp only [Int.toNat_natCast] at *; omega) | (simp only [Nat.reduceAdd, Int.cast_ofNat_Int, true_and, and_true]; omega) | kernel_rfl) ?_
        | refine RegW.run ?_
        | refine ⟨_, h1, ?_⟩
        | fail
      all_goals first
        | (exfalso; rename_i h; exact h rfl)
        | exact ⟨k + 1, ⟨by omega, e1⟩, ⟨[], ⟨by kernel_rfl, by kernel_rfl, by kernel_rfl, by kernel_rfl, by kernel_rfl, by kernel_rfl, by kernel_rfl⟩, (by repeat' first | exact trivial | exact rfl | kernel_rfl | exact Dle.of_eq rfl | exact MLe.of_eq rfl | exact Dle.i (by omega) | exact Dle.i (by simp only [Int.toNat_natCast] at *; omega) | exact Dle.nil | exact Dle.rc Dle.nil | exact Option.some_ne_none _ | exact Or.inl rfl | exact Or.inr trivial | omega | (simp only [Int.toNat_natCast] at *; omega) | (intro _ _ _ _; exact Dle.of_eq rfl) | refine And.intro ?_ ?_)⟩, by first | omega | (dsimp only; omega)⟩
        | trace_state
  · have e1 : r = ⟨k, 0, 0⟩ := by rw [hK, bl_end hlt]
    subst e1
    repeat' first
      | (refine facW_intro ?_; intro _)
      | refine Or.inl ?_
      | ((conv => whnf); first | (refine condW_dec ?_ ?_ <;> intro _ <;> try (exfalso; omega)) | refine condW_not ?_ | (refine condW_bool ?_ ?_ <;> intro _ <;> try (exfalso; omega)) | (refine nbC_t (fun _ => ?_) ?_) | (refine nbC_f ?_ (fun _ => ?_)))
      | refine And.intro (by first | omega | (simp only [Int.toNat_natCast] at *; omega) | (simp only [Nat.reduceAdd, Int.cast_ofNat_Int, true_and, and_true]; omega) | kernel_rfl) ?_
      | refine RegW.run ?_
      | fail
    all_goals first
      | exact ⟨[(3000, .cells [dS s, dB sc, .own 2000 4 0 n]), (2000, .row 62 n g)], [], rfl, ⟨[], ⟨by kernel_rfl, by kernel_rfl, by kernel_rfl, by kernel_rfl, by kernel_rfl, by kernel_rfl, by kernel_rfl⟩, (by repeat' first | (exact Dle.i (by omega)) | exact trivial | exact rfl | kernel_rfl | exact Dle.of_eq rfl | exact MLe.of_eq rfl | exact Dle.i (by omega) | exact Dle.i (by simp only [Int.toNat_natCast] at *; omega) | exact Dle.nil | exact Dle.rc Dle.nil | exact Option.some_ne_none _ | exact Or.inl rfl | exact Or.inr trivial | omega | (simp only [Int.toNat_natCast] at *; omega) | (intro _ _ _ _; exact Dle.of_eq rfl) | refine And.intro ?_ ?_)⟩, rfl⟩
      | trace_state
theorem add_sp (s : ByteArray) (sc : Bool) (l : List Tk) (k : Int) (a b : Nat) (h1 : a ≤ b) (h2 : b ≤ s.size) (hl : l.length ≤ 100000000000) :
    SpH (cx Try.prog mixed tyT_ok E) 35 [.ptr 3000 0, i64 k, i64 a, i64 b] (scH s sc 3000 2000 l.length (rowT l)) (.tup []) (scH s sc 3000 32 (l ++ [tkOf s k a b]).length (rowT (l ++ [tkOf s k a b]))) := by
  have e5 : l.length + 1 = (l ++ [tkOf s k a b]).length := by simp
  by_cases hk : k = 4
  · have e6 : (tkOf s k a b).t = ⟨#[32]⟩ := by unfold tkOf; rw [if_pos hk]
    refine SpH.body Try.func35 (by kernel_rfl) rfl (by kernel_rfl) (by kernel_rfl) (by kernel_rfl) ?_
    repeat' first
      | (refine facW_intro ?_; intro _)
      | refine Or.inl ?_
      | ((conv => whnf); first | (refine condW_dec ?_ ?_ <;> intro _ <;> try (exfalso; omega)) | refine condW_not ?_ | (refine condW_bool ?_ ?_ <;> intro _ <;> try (exfalso; omega)) | (refine nbC_t (fun _ => ?_) ?_) | (refine nbC_f ?_ (fun _ => ?_)))
      | refine And.intro (by first | omega | (simp only [Int.toNat_natCast] at *; omega) | (simp only [Nat.reduceAdd, Int.cast_ofNat_Int, true_and, and_true]; omega) | kernel_rfl) ?_
      | refine RegW.run ?_
      | fail
    all_goals first
      | exact ⟨[(3000, .cells [dS s, dB sc, .own 32 4 0 (l ++ [tkOf s k a b]).length])], [(32, 62, (l ++ [tkOf s k a b]).length, rowT (l ++ [tkOf s k a b]))], rfl, ⟨[(32, some 32)], ⟨by kernel_rfl, by kernel_rfl, by kernel_rfl, by kernel_rfl, by kernel_rfl, by kernel_rfl, by kernel_rfl⟩, (by repeat' first | (exact e5) | exact trivial | exact rfl | kernel_rfl | exact Dle.of_eq rfl | exact MLe.of_eq rfl | exact Dle.i (by omega) | exact Dle.i (by simp only [Int.toNat_natCast] at *; omega) | exact Dle.nil | exact Dle.rc Dle.nil | exact Option.some_ne_none _ | exact Or.inl rfl | exact Or.inr trivial | omega | (simp only [Int.toNat_natCast] at *; omega) | (intro _ _ _ _; exact Dle.of_eq rfl) | (intro i j hi hj; exact row_tk E l (tkOf s k a b) _ (by rw [e6]; rfl) i j (by omega) hj) | refine And.intro ?_ ?_)⟩, rfl⟩
      | trace_state
  · have e6 : (tkOf s k a b).t = s.extract a b := by unfold tkOf; rw [if_neg hk]
    refine SpH.body Try.func35 (by kernel_rfl) rfl (by kernel_rfl) (by kernel_rfl) (by kernel_rfl) ?_
    repeat' first
      | (refine facW_intro ?_; intro _)
      | refine Or.inl ?_
      | ((conv => whnf); first | (refine condW_dec ?_ ?_ <;> intro _ <;> try (exfalso; omega)) | refine condW_not ?_ | (refine condW_bool ?_ ?_ <;> intro _ <;> try (exfalso; omega)) | (refine nbC_t (fun _ => ?_) ?_) | (refine nbC_f ?_ (fun _ => ?_)))
      | refine And.intro (by first | omega | (simp only [Int.toNat_natCast] at *; omega) | (simp only [Nat.reduceAdd, Int.cast_ofNat_Int, true_and, and_true]; omega) | kernel_rfl) ?_
      | refine RegW.run ?_
      | fail
    all_goals first
      | exact ⟨[(3000, .cells [dS s, dB sc, .own 32 4 0 (l ++ [tkOf s k a b]).length])], [(32, 62, (l ++ [tkOf s k a b]).length, rowT (l ++ [tkOf s k a b]))], rfl, ⟨[(32, some 32)], ⟨by kernel_rfl, by kernel_rfl, by kernel_rfl, by kernel_rfl, by kernel_rfl, by kernel_rfl, by kernel_rfl⟩, (by repeat' first | (exact e5) | exact trivial | exact rfl | kernel_rfl | exact Dle.of_eq rfl | exact MLe.of_eq rfl | exact Dle.i (by omega) | exact Dle.i (by simp only [Int.toNat_natCast] at *; omega) | exact Dle.nil | exact Dle.rc Dle.nil | exact Option.some_ne_none _ | exact Or.inl rfl | exact Or.inr trivial | omega | (simp only [Int.toNat_natCast] at *; omega) | (intro _ _ _ _; exact Dle.of_eq rfl) | (intro i j hi hj; exact row_tk E l (tkOf s k a b) _ (by rw [e6]; rfl) i j (by omega) hj) | refine And.intro ?_ ?_)⟩, rfl⟩
      | trace_state
end
end tk
end Go.Proofs.Ytiiohopjkepkgaa
