/-
  Tokens: a scanner's methods; the scanner is lent.
-/
import Derived.Test.YtiiohopjkepkgaaTk3
namespace Go.Proofs.Ytiiohopjkepkgaa
open Go.RowKit
set_option linter.unusedVariables false
set_option linter.unusedSimpArgs false
namespace tk
theorem mk_all : ∀ n : Fin 256, decide (0 ≤ Lib.indexByte [123, 125, 40, 41, 91, 93, 59, 58, 44, 62] (UInt8.ofNat n.val)) = mkB n.val := by decide +kernel
theorem mk_c (c : UInt8) : decide (0 ≤ Lib.indexByte [123, 125, 40, 41, 91, 93, 59, 58, 44, 62] c) = mkB c.toNat := by
  have := mk_all ⟨c.toNat, UInt8.toNat_lt c⟩
  simpa using this
def Tk.zero : Tk := ⟨0, ⟨#[]⟩, 0, 0⟩
def tkC (t : Tk) (j : Nat) : DD :=
  match j with
  | 0 => i64 t.k
  | 1 => dS t.t
  | 2 => i64 t.f
  | 3 => i64 t.e
  | _ => .opq
def rowT (l : List Tk) (i j : Nat) : DD := tkC (l.getD i .zero) j
section
variable (E : Env)
set_option maxRecDepth 100000
theorem row_tk (l : List Tk) (t : Tk) (cs : List DD) (hcs : cs = [i64 t.k, dS t.t, i64 t.f, i64 t.e]) (i j : Nat) (hi : i < l.length + 1) (hj : j < 4) : Dle (cx Try.prog mixed tyT_ok E) (if i < l.length then rowT l i j else cs.getD ((i - l.length + 0) * 4 + j) .opq) (rowT (l ++ [t]) i j) := by
  subst hcs
  rcases Nat.lt_or_ge i l.length with h | h
  · rw [if_pos h]
    exact Dle.of_eq (by unfold rowT; simp only [List.getD]; rw [List.getElem?_append_left h])
  · obtain rfl : i = l.length := by omega
    rw [if_neg (by omega)]
    have e : rowT (l ++ [t]) l.length j = tkC t j := by unfold rowT; simp [List.getD]
    rw [e]
    match j, hj with
    | 0, _ => exact Dle.of_eq (by simp [tkC, List.getD])
    | 1, _ => exact Dle.of_eq (by simp [tkC, List.getD])
    | 2, _ => exact Dle.of_eq (by simp [tkC, List.getD])
    | 3, _ => exact Dle.of_eq (by simp [tkC, List.getD])
theorem comment_sp (hML : ∀ w, E.G w → ML w) (s : ByteArray) (hs : s.size < 4294967281) (sc : Bool) (n : Nat) (g : Nat → Nat → DD) (i : Nat) (hi : i ≤ s.size) :
    SpH (cx Try.prog mixed tyT_ok E) 33 [.ptr 3000 0, i64 i] (scH s sc 3000 2000 n g) (i64 (cmE s sc i)) (scH s sc 3000 2000 n g) := by
  have h1 := pre2_sp E s i hi 47 42
  have h2 := pre2_sp E s i hi 47 47
  have h3 := ib_sp E s i
  have g3 := ibE_le s i
  have h4 : hasP s i 47 42 = true → i + 2 ≤ s.size := fun h => by
    unfold hasP at h
    simp only [Bool.and_eq_true, decide_eq_true_eq] at h
    exact h.1
  obtain ⟨r, hr⟩ : ∃ r, r = cmE s sc i := ⟨_, rfl⟩
  rw [← hr]
  unfold cmE cm at hr
  generalize ibE s i = y at *
  change Sp _ _ _ (dB (hasP s i 47 42)) at h1
  change Sp _ _ _ (dB (hasP s i 47 47)) at h2
  generalize hasP s i 47 47 = q at *
  cases hp : hasP s i 47 42 <;> rw [hp] at h1 hr h4
  · rw [if_neg (by decide)] at hr
    by_cases hy : y < 0
    · rw [if_pos hy] at hr
      cases sc <;> cases q <;> (try rw [if_neg (by decide)] at hr) <;> (try rw [if_pos (by decide)] at hr)
      all_goals
        refine SpH.body Try.func33 (by kernel_rfl) rfl (by kernel_rfl) (by kernel_rfl) (by kernel_rfl) ?_
        repeat' first
          | (refine facW_intro ?_; intro _)
          | refine Or.inl ?_
          | ((conv => whnf); first | (refine condW_dec ?_ ?_ <;> intro _ <;> try (exfalso; omega)) | refine condW_not ?_ | (refine condW_bool ?_ ?_ <;> intro _ <;> try (exfalso; omega)) | (refine nbC_t (fun _ => ?_) ?_) | (refine nbC_f ?_ (fun _ => ?_)))
          | refine And.intro (by first | omega | (simp only [Int.toNat_natCast] at *; omega) | (simp only [Nat.reduceAdd, Int.cast_ofNat_Int, true_and, and_true]; omega) | kernel_rfl) ?_
          | refine RegW.run ?_
          | refine ⟨_, h1, ?_⟩
          | refine ⟨_, h2, ?_⟩
          | refine ⟨_, h3, ?_⟩
          | fail
        all_goals first
          | (exfalso; rename_i h; exact h rfl)
          | exact ⟨[(3000, .cells [dS s, dB _, .own 2000 4 0 n]), (2000, .row 62 n g)], [], rfl, ⟨[], ⟨by kernel_rfl, by kernel_rfl, by kernel_rfl, by kernel_rfl, by kernel_rfl, by kernel_rfl, by kernel_rfl⟩, (by repeat' first | (exact Dle.i (by omega)) | exact trivial | exact rfl | kernel_rfl | exact Dle.of_eq rfl | exact MLe.of_eq rfl | exact Dle.i (by omega) | exact Dle.i (by simp only [Int.toNat_natCast] at *; omega) | exact Dle.nil | exact Dle.rc Dle.nil | exact Option.some_ne_none _ | exact Or.inl rfl | exact Or.inr trivial | omega | (simp only [Int.toNat_natCast] at *; omega) | (intro _ _ _ _; exact Dle.of_eq rfl) | refine And.intro ?_ ?_)⟩, rfl⟩
          | trace_state
    · rw [if_neg hy] at hr
      cases sc <;> cases q <;> (try rw [if_neg (by decide)] at hr) <;> (try rw [if_pos (by decide)] at hr)
      all_goals
        refine SpH.body Try.func33 (by kernel_rfl) rfl (by kernel_rfl) (by kernel_rfl) (by kernel_rfl) ?_
        repeat' first
          | (refine facW_intro ?_; intro _)
          | refine Or.inl ?_
          | ((conv => whnf); first | (refine condW_dec ?_ ?_ <;> intro _ <;> try (exfalso; omega)) | refine condW_not ?_ | (refine condW_bool ?_ ?_ <;> intro _ <;> try (exfalso; omega)) | (refine nbC_t (fun _ => ?_) ?_) | (refine nbC_f ?_ (fun _ => ?_)))
          | refine And.intro (by first | omega | (simp only [Int.toNat_natCast] at *; omega) | (simp only [Nat.reduceAdd, Int.cast_ofNat_Int, true_and, and_true]; omega) | kernel_rfl) ?_
          | refine RegW.run ?_
          | refine ⟨_, h1, ?_⟩
          | refine ⟨_, h2, ?_⟩
          | refine ⟨_, h3, ?_⟩
          | fail
        all_goals first
          | (exfalso; rename_i h; exact h rfl)
          | exact ⟨[(3000, .cells [dS s, dB _, .own 2000 4 0 n]), (2000, .row 62 n g)], [], rfl, ⟨[], ⟨by kernel_rfl, by kernel_rfl, by kernel_rfl, by kernel_rfl, by kernel_rfl, by kernel_rfl, by kernel_rfl⟩, (by repeat' first | (exact Dle.i (by omega)) | exact trivial | exact rfl | kernel_rfl | exact Dle.of_eq rfl | exact MLe.of_eq rfl | exact Dle.i (by omega) | exact Dle.i (by simp only [Int.toNat_natCast] at *; omega) | exact Dle.nil | exact Dle.rc Dle.nil | exact Option.some_ne_none _ | exact Or.inl rfl | exact Or.inr trivial | omega | (simp only [Int.toNat_natCast] at *; omega) | (intro _ _ _ _; exact Dle.of_eq rfl) | refine And.intro ?_ ?_)⟩, rfl⟩
          | trace_state
  · have h4 := h4 rfl
    have h5 := ix_sp E hML s hs i h4
    have e5 : (s.extract ((i : Int)).toNat ((s.size : Int)).toNat).extract (2 : Int).toNat (((s.extract ((i : Int)).toNat ((s.size : Int)).toNat).size : Int)).toNat = s.extract ((i : Int) + 2).toNat ((s.size : Int)).toNat := by
      simp only [Int.toNat_natCast]
      rw [show ((i : Int) + 2).toNat = i + 2 by omega, show (2 : Int).toNat = 2 by decide, ByteArray.size_extract]
      apply ByteArray.ext
      simp [ByteArray.extract, ByteArray.copySlice]
      congr 1 <;> omega
    rw [← e5] at h5
    have g6 : (s.extract ((i : Int)).toNat ((s.size : Int)).toNat).size = s.size - i := by rw [ByteArray.size_extract]; simp only [Int.toNat_natCast]; omega
    have g5 := ixE_or s (i + 2) h4
    rw [if_pos (by decide)] at hr
    generalize ixE s (i + 2) = x at *
    by_cases hx : x < 0
    · rw [if_pos hx] at hr
      refine SpH.body Try.func33 (by kernel_rfl) rfl (by kernel_rfl) (by kernel_rfl) (by kernel_rfl) ?_
      repeat' first
        | (refine facW_intro ?_; intro _)
        | refine Or.inl ?_
        | ((conv => whnf); first | (refine condW_dec ?_ ?_ <;> intro _ <;> try (exfalso; omega)) | refine condW_not ?_ | (refine condW_bool ?_ ?_ <;> intro _ <;> try (exfalso; omega)) | (refine nbC_t (fun _ => ?_) ?_) | (refine nbC_f ?_ (fun _ => ?_)))
        | refine And.intro (by first | omega | (simp only [Int.toNat_natCast] at *; omega) | (simp only [Nat.reduceAdd, Int.cast_ofNat_Int, true_and, and_true]; omega) | kernel_rfl) ?_
        | refine RegW.run ?_
        | refine ⟨_, h1, ?_⟩
        | refine ⟨_, h2, ?_⟩
        | refine ⟨_, h3, ?_⟩
        | refine ⟨_, h5, ?_⟩
        | fail
      all_goals first
        | (exfalso; rename_i h; exact h rfl)
        | exact ⟨[(3000, .cells [dS s, dB sc, .own 2000 4 0 n]), (2000, .row 62 n g)], [], rfl, ⟨[], ⟨by kernel_rfl, by kernel_rfl, by kernel_rfl, by kernel_rfl, by kernel_rfl, by kernel_rfl, by kernel_rfl⟩, (by repeat' first | (exact Dle.i (by omega)) | exact trivial | exact rfl | kernel_rfl | exact Dle.of_eq rfl | exact MLe.of_eq rfl | exact Dle.i (by omega) | exact Dle.i (by simp only [Int.toNat_natCast] at *; omega) | exact Dle.nil | exact Dle.rc Dle.nil | exact Option.some_ne_none _ | exact Or.inl rfl | exact Or.inr trivial | omega | (simp only [Int.toNat_natCast] at *; omega) | (intro _ _ _ _; exact Dle.of_eq rfl) | refine And.intro ?_ ?_)⟩, rfl⟩
        | trace_state
    · rw [if_neg hx] at hr
      refine SpH.body Try.func33 (by kernel_rfl) rfl (by kernel_rfl) (by kernel_rfl) (by kernel_rfl) ?_
      repeat' first
        | (refine facW_intro ?_; intro _)
        | refine Or.inl ?_
        | ((conv => whnf); first | (refine condW_dec ?_ ?_ <;> intro _ <;> try (exfalso; omega)) | refine condW_not ?_ | (refine condW_bool ?_ ?_ <;> intro _ <;> try (exfalso; omega)) | (refine nbC_t (fun _ => ?_) ?_) | (refine nbC_f ?_ (fun _ => ?_)))
        | refine And.intro (by first | omega | (simp only [Int.toNat_natCast] at *; omega) | (simp only [Nat.reduceAdd, Int.cast_ofNat_Int, true_and, and_true]; omega) | kernel_rfl) ?_
        | refine RegW.run ?_
        | refine ⟨_, h1, ?_⟩
        | refine ⟨_, h2, ?_⟩
        | refine ⟨_, h3, ?_⟩
        | refine ⟨_, h5, ?_⟩
        | fail
      all_goals first
        | (exfalso; rename_i h; exact h rfl)
        | exact ⟨[(3000, .cells [dS s, dB sc, .own 2000 4 0 n]), (2000, .row 62 n g)], [], rfl, ⟨[], ⟨by kernel_rfl, by kernel_rfl, by kernel_rfl, by kernel_rfl, by kernel_rfl, by kernel_rfl, by kernel_rfl⟩, (by repeat' first | (exact Dle.i (by omega)) | exact trivial | exact rfl | kernel_rfl | exact Dle.of_eq rfl | exact MLe.of_eq rfl | exact Dle.i (by omega) | exact Dle.i (by simp only [Int.toNat_natCast] at *; omega) | exact Dle.nil | exact Dle.rc Dle.nil | exact Option.some_ne_none _ | exact Or.inl rfl | exact Or.inr trivial | omega | (simp only [Int.toNat_natCast] at *; omega) | (intro _ _ _ _; exact Dle.of_eq rfl) | refine And.intro ?_ ?_)⟩, rfl⟩
        | trace_state
theorem checked_sp (s : ByteArray) (hs : s.size < 4294967281) (sc : Bool) (n : Nat) (g : Nat → Nat → DD) (i e : Nat) (he : e ≤ s.size) :
    SpH (cx Try.prog mixed tyT_ok E) 37 [.ptr 3000 0, i64 i, i64 e] (scH s sc 3000 2000 n g) (i64 (chk s i e)) (scH s sc 3000 2000 n g) := by
  obtain ⟨r, hr⟩ : ∃ r, r = chk s i e := ⟨_, rfl⟩
  rw [← hr]
  refine SpH.body Try.func37 (by kernel_rfl) rfl (by kernel_rfl) (by kernel_rfl) (by kernel_rfl) ?_
  repeat' first
    | (refine facW_intro ?_; intro _)
    | refine Or.inl ?_
    | ((conv => whnf); first | (refine condW_dec ?_ ?_ <;> intro _ <;> try (exfalso; omega)) | refine condW_not ?_ | (refine condW_bool ?_ ?_ <;> intro _ <;> try (exfalso; omega)) | (refine nbC_t (fun _ => ?_) ?_) | (refine nbC_f ?_ (fun _ => ?_)))
    | refine And.intro (by first | omega | (simp only [Int.toNat_natCast] at *; omega) | (simp only [Nat.reduceAdd, Int.cast_ofNat_Int, true_and, and_true]; omega) | kernel_rfl) ?_
    | refine RegW.run ?_
    | fail
  refine ⟨Nat, fun k => [(7, i64 k)], fun k => [], [3000, 2000], fun k => [], fun k => r = chk s k e, fun k => e - k, ⟨i, hr, ⟨[], ⟨by kernel_rfl, by kernel_rfl, by kernel_rfl, by kernel_rfl, by kernel_rfl, by kernel_rfl, by kernel_rfl⟩, (by repeat' first | exact trivial | exact rfl | kernel_rfl | exact Dle.of_eq rfl | exact MLe.of_eq rfl | exact Dle.i (by omega) | exact Dle.i (by simp only [Int.toNat_natCast] at *; omega) | exact Dle.nil | exact Dle.rc Dle.nil | exact Option.some_ne_none _ | exact Or.inl rfl | exact Or.inr trivial | omega | (simp only [Int.toNat_natCast] at *; omega) | (intro _ _ _ _; exact Dle.of_eq rfl) | refine And.intro ?_ ?_)⟩⟩, fun k hk => ?_⟩
  have hK : r = chk s k e := hk
  by_cases hlt : k < e
  · have h1 : Sp (cx Try.prog mixed tyT_ok E) 31 [.v (.int .u8 ((bAt s ((k : Int)).toNat).toNat : Int))] (dB (badB (at_ s k))) := badByte_sp E (at_ s k)
    cases hb : badB (at_ s k) <;> rw [hb] at h1
    · have hK2 : r = chk s (k + 1) e := by rw [hK, chk_ok hlt hb]
      repeat' first
        | (refine facW_intro ?_; intro _)
        | refine Or.inl ?_
        | ((conv => whnf); first | (refine condW_dec ?_ ?_ <;> intro _ <;> try (exfalso; omega)) | refine condW_not ?_ | (refine condW_bool ?_ ?_ <;> intro _ <;> try (exfalso; omega)) | (refine nbC_t (fun _ => ?_) ?_) | (refine nbC_f ?_ (fun _ => ?_)))
        | refine And.intro (by first | omega | (simp only [Int.toNat_natCast] at *; omega) | (simp only [Nat.reduceAdd, Int.cast_ofNat_Int, true_and, and_true]; omega) | kernel_rfl) ?_
        | refine RegW.run ?_
        | refine ⟨_, h1, ?_⟩
        | fail
      all_goals first
        | (exfalso; rename_i h; exact h rfl)
        | exact ⟨k + 1, hK2, ⟨[], ⟨by kernel_rfl, by kernel_rfl, by kernel_rfl, by kernel_rfl, by kernel_rfl, by kernel_rfl, by kernel_rfl⟩, (by repeat' first | exact trivial | exact rfl | kernel_rfl | exact Dle.of_eq rfl | exact MLe.of_eq rfl | exact Dle.i (by omega) | exact Dle.i (by simp only [Int.toNat_natCast] at *; omega) | exact Dle.nil | exact Dle.rc Dle.nil | exact Option.some_ne_none _ | exact Or.inl rfl | exact Or.inr trivial | omega | (simp only [Int.toNat_natCast] at *; omega) | (intro _ _ _ _; exact Dle.of_eq rfl) | refine And.intro ?_ ?_)⟩, by first | omega | (dsimp only; omega)⟩
        | trace_state
    · have hK2 : r = (k : Int) := by rw [hK, chk_bad hlt hb]
      repeat' first
        | (refine facW_intro ?_; intro _)
        | refine Or.inl ?_
        | ((conv => whnf); first | (refine condW_dec ?_ ?_ <;> intro _ <;> try (exfalso; omega)) | refine condW_not ?_ | (refine condW_bool ?_ ?_ <;> intro _ <;> try (exfalso; omega)) | (refine nbC_t (fun _ => ?_) ?_) | (refine nbC_f ?_ (fun _ => ?_)))
        | refine And.intro (by first | omega | (simp only [Int.toNat_natCast] at *; omega) | (simp only [Nat.reduceAdd, Int.cast_ofNat_Int, true_and, and_true]; omega) | kernel_rfl) ?_
        | refine RegW.run ?_
        | refine ⟨_, h1, ?_⟩
        | fail
      all_goals first
        | (exfalso; rename_i h; exact h rfl)
        | exact ⟨[(3000, .cells [dS s, dB sc, .own 2000 4 0 n]), (2000, .row 62 n g)], [], rfl, ⟨[], ⟨by kernel_rfl, by kernel_rfl, by kernel_rfl, by kernel_rfl, by kernel_rfl, by kernel_rfl, by kernel_rfl⟩, (by repeat' first | (exact Dle.i (by omega)) | exact trivial | exact rfl | kernel_rfl | exact Dle.of_eq rfl | exact MLe.of_eq rfl | exact Dle.i (by omega) | exact Dle.i (by simp only [Int.toNat_natCast] at *; omega) | exact Dle.nil | exact Dle.rc Dle.nil | exact Option.some_ne_none _ | exact Or.inl rfl | exact Or.inr trivial | omega | (simp only [Int.toNat_natCast] at *; omega) | (intro _ _ _ _; exact Dle.of_eq rfl) | refine And.intro ?_ ?_)⟩, rfl⟩
        | trace_state
  · have hK2 : r = -1 := by rw [hK, chk_end hlt]
    repeat' first
      | (refine facW_intro ?_; intro _)
      | refine Or.inl ?_
      | ((conv => whnf); first | (refine condW_dec ?_ ?_ <;> intro _ <;> try (exfalso; omega)) | refine condW_not ?_ | (refine condW_bool ?_ ?_ <;> intro _ <;> try (exfalso; omega)) | (refine nbC_t (fun _ => ?_) ?_) | (refine nbC_f ?_ (fun _ => ?_)))
      | refine And.intro (by first | omega | (simp only [Int.toNat_natCast] at *; omega) | (simp only [Nat.reduceAdd, Int.cast_ofNat_Int, true_and, and_true]; omega) | kernel_rfl) ?_
      | refine RegW.run ?_
      | fail
    all_goals first
      | exact ⟨[(3000, .cells [dS s, dB sc, .own 2000 4 0 n]), (2000, .row 62 n g)], [], rfl, ⟨[], ⟨by kernel_rfl, by kernel_rfl, by kernel_rfl, by kernel_rfl, by kernel_rfl, by kernel_rfl, by kernel_rfl⟩, (by repeat' first | (exact Dle.i (by omega)) | exact trivial | exact rfl | kernel_rfl | exact Dle.of_eq rfl | exact MLe.of_eq rfl | exact Dle.i (by omega) | exact Dle.i (by simp only [Int.toNat_natCast] at *; omega) | exact Dle.nil | exact Dle.rc Dle.nil | exact Option.some_ne_none _ | exact Or.inl rfl | exact Or.inr trivial | omega | (simp only [Int.toNat_natCast] at *; omega) | (intro _ _ _ _; exact Dle.of_eq rfl) | refine And.intro ?_ ?_)⟩, rfl⟩
      | trace_state
end
end tk
end Go.Proofs.Ytiiohopjkepkgaa
