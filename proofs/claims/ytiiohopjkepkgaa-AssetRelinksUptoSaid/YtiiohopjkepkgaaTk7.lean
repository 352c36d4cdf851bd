/-
  Tokens: asset.divided.
-/
import Derived.Test.YtiiohopjkepkgaaTk6
namespace Go.Proofs.Ytiiohopjkepkgaa
open Go.RowKit
set_option linter.unusedVariables false
set_option linter.unusedSimpArgs false
namespace tk
section
variable {c : ByteArray → Bool → Nat → Int} {s : ByteArray} {sc : Bool} {i : Nat}
theorem nx_bad (h : badB (at_ s i) = true) : nx c s sc i = .no i 9 := by unfold nx; rw [if_pos h]
theorem nx_blank (h0 : badB (at_ s i) = false) (h : blkB (at_ s i) = true ∨ 0 ≤ c s sc i) : nx c s sc i = if (bl c s sc i).e ≠ 0 then .no (bl c s sc i).at' (bl c s sc i).e else .ok 4 (bl c s sc i).i.toNat := by
  unfold nx
  rw [if_neg (by rw [h0]; decide), if_pos (by simpa using h)]
theorem nx_str (h0 : badB (at_ s i) = false) (h1 : blkB (at_ s i) = false) (h2 : c s sc i < 0) (h3 : at_ s i = 34 ∨ at_ s i = 39) : nx c s sc i = if txt s (at_ s i) (i + 1) < 0 then .no i 8 else if 0 ≤ chk s i (txt s (at_ s i) (i + 1)).toNat then .no (chk s i (txt s (at_ s i) (i + 1)).toNat) 9 else .ok 2 (txt s (at_ s i) (i + 1)).toNat := by
  unfold nx
  rw [if_neg (by rw [h0]; decide), if_neg (by simp [h1]; omega), if_pos h3]
theorem nx_mark (h0 : badB (at_ s i) = false) (h1 : blkB (at_ s i) = false) (h2 : c s sc i < 0) (h3 : ¬ (at_ s i = 34 ∨ at_ s i = 39)) (h4 : markB sc (at_ s i) = true) : nx c s sc i = .ok 3 (i + 1) := by
  unfold nx
  rw [if_neg (by rw [h0]; decide), if_neg (by simp [h1]; omega), if_neg h3, if_pos h4]
theorem nx_word (h0 : badB (at_ s i) = false) (h1 : blkB (at_ s i) = false) (h2 : c s sc i < 0) (h3 : ¬ (at_ s i = 34 ∨ at_ s i = 39)) (h4 : markB sc (at_ s i) = false) : nx c s sc i = .ok 1 (we c s sc (i + 1)) := by
  unfold nx
  rw [if_neg (by rw [h0]; decide), if_neg (by simp [h1]; omega), if_neg h3, if_neg (by rw [h4]; decide)]
end
def encTs (r : Tks) : DD := .tup [.sl 4 40 r.l.length (rowT r.l), i64 r.at', i64 r.e]
section
variable (E : Env)
set_option maxRecDepth 100000
theorem dle_err {a e : Int} {r : Tks} (h : r = ⟨[], a, e⟩) : Dle (cx Try.prog mixed tyT_ok E) (.tup [.v (.slice none 0 0), i64 a, i64 e]) (encTs r) := by
  subst h
  exact .tup ⟨Dle.nil, Dle.refl _ _, Dle.refl _ _, trivial⟩
theorem comment19 (hML : ∀ w, E.G w → ML w) (s : ByteArray) (hs : s.size < 4294967281) (sc : Bool) (n : Nat) (g : Nat → Nat → DD) (i : Nat) (hi : i ≤ s.size) : SpH (cx Try.prog mixed tyT_ok E) 33 [.ptr 19 0, i64 i] (scH s sc 19 20 n g) (i64 (cmE s sc i)) (scH s sc 19 20 n g) := by
  have h := (comment_sp E hML s hs sc n g i hi).to2 3000 2000 19 20
  have e1 : ren2 3000 2000 19 20 3000 = 19 := by decide
  have e2 : ren2 3000 2000 19 20 2000 = 20 := by decide
  simpa only [D.renL, D.ren, renH, Ob.ren, e1, e2] using h
theorem checked19 (s : ByteArray) (hs : s.size < 4294967281) (sc : Bool) (n : Nat) (g : Nat → Nat → DD) (i e : Nat) (he : e ≤ s.size) : SpH (cx Try.prog mixed tyT_ok E) 37 [.ptr 19 0, i64 i, i64 e] (scH s sc 19 20 n g) (i64 (chk s i e)) (scH s sc 19 20 n g) := by
  have h := (checked_sp E s hs sc n g i e he).to2 3000 2000 19 20
  have e1 : ren2 3000 2000 19 20 3000 = 19 := by decide
  have e2 : ren2 3000 2000 19 20 2000 = 20 := by decide
  simpa only [D.renL, D.ren, renH, Ob.ren, e1, e2] using h
theorem text19 (s : ByteArray) (hs : s.size < 4294967281) (sc : Bool) (n : Nat) (g : Nat → Nat → DD) (a : Nat) (ha : a < s.size) (hq : at_ s a = 34 ∨ at_ s a = 39) : SpH (cx Try.prog mixed tyT_ok E) 36 [.ptr 19 0, i64 a] (scH s sc 19 20 n g) (i64 (txt s (at_ s a) (a + 1))) (scH s sc 19 20 n g) := by
  have h := (text_sp E s hs sc n g a ha hq).to2 3000 2000 19 20
  have e1 : ren2 3000 2000 19 20 3000 = 19 := by decide
  have e2 : ren2 3000 2000 19 20 2000 = 20 := by decide
  simpa only [D.renL, D.ren, renH, Ob.ren, e1, e2] using h
theorem isMark19 (s : ByteArray) (sc : Bool) (n : Nat) (g : Nat → Nat → DD) (i : Nat) : SpH (cx Try.prog mixed tyT_ok E) 38 [.ptr 19 0, .v (.int .u8 ((bAt s ((i : Int)).toNat).toNat : Int))] (scH s sc 19 20 n g) (dB (markB sc (at_ s i))) (scH s sc 19 20 n g) := by
  have h := (isMark_sp E s sc n g (bAt s i)).to2 3000 2000 19 20
  have e1 : ren2 3000 2000 19 20 3000 = 19 := by decide
  have e2 : ren2 3000 2000 19 20 2000 = 20 := by decide
  simp only [D.renL, D.ren, renH, Ob.ren, e1, e2] at h
  exact h
theorem begins19 (hML : ∀ w, E.G w → ML w) (s : ByteArray) (hs : s.size < 4294967281) (sc : Bool) (n : Nat) (g : Nat → Nat → DD) (i : Nat) (hi : i < s.size) : SpH (cx Try.prog mixed tyT_ok E) 39 [.ptr 19 0, i64 i] (scH s sc 19 20 n g) (dB (begB cmE s sc i)) (scH s sc 19 20 n g) := by
  have h := (begins_sp E hML s hs sc n g i hi).to2 3000 2000 19 20
  have e1 : ren2 3000 2000 19 20 3000 = 19 := by decide
  have e2 : ren2 3000 2000 19 20 2000 = 20 := by decide
  simpa only [D.renL, D.ren, renH, Ob.ren, e1, e2] using h
theorem blank19 (hML : ∀ w, E.G w → ML w) (s : ByteArray) (hs : s.size < 4294967281) (sc : Bool) (n : Nat) (g : Nat → Nat → DD) (i : Nat) (hi : i ≤ s.size) : SpH (cx Try.prog mixed tyT_ok E) 34 [.ptr 19 0, i64 i] (scH s sc 19 20 n g) (.tup [i64 (bl cmE s sc i).i, i64 (bl cmE s sc i).at', i64 (bl cmE s sc i).e]) (scH s sc 19 20 n g) := by
  have h := (blank_sp E hML s hs sc n g i hi).to2 3000 2000 19 20
  have e1 : ren2 3000 2000 19 20 3000 = 19 := by decide
  have e2 : ren2 3000 2000 19 20 2000 = 20 := by decide
  simpa only [D.renL, D.ren, renH, Ob.ren, e1, e2] using h
theorem add44 (s : ByteArray) (sc : Bool) (l : List Tk) (k : Int) (a b : Nat) (h1 : a ≤ b) (h2 : b ≤ s.size) (hl : l.length ≤ 100000000000) :
    SpH (cx Try.prog mixed tyT_ok E) 35 [.ptr 19 0, i64 k, i64 a, i64 b] (scH s sc 19 20 l.length (rowT l)) (.tup []) (scH s sc 19 44 (l ++ [tkOf s k a b]).length (rowT (l ++ [tkOf s k a b]))) := by
  have h := ((add_sp E s sc l k a b h1 h2 hl).to2 3000 2000 19 20).swap 32 44
  have e1 : swp 32 44 (ren2 3000 2000 19 20 3000) = 19 := by decide
  have e2 : swp 32 44 (ren2 3000 2000 19 20 2000) = 20 := by decide
  have e3 : swp 32 44 (ren2 3000 2000 19 20 32) = 44 := by decide
  simpa only [D.renL, D.ren, renH, Ob.ren, List.map_cons, List.map_nil, e1, e2, e3] using h
theorem add73 (s : ByteArray) (sc : Bool) (l : List Tk) (k : Int) (a b : Nat) (h1 : a ≤ b) (h2 : b ≤ s.size) (hl : l.length ≤ 100000000000) :
    SpH (cx Try.prog mixed tyT_ok E) 35 [.ptr 19 0, i64 k, i64 a, i64 b] (scH s sc 19 20 l.length (rowT l)) (.tup []) (scH s sc 19 73 (l ++ [tkOf s k a b]).length (rowT (l ++ [tkOf s k a b]))) := by
  have h := ((add_sp E s sc l k a b h1 h2 hl).to2 3000 2000 19 20).swap 32 73
  have e1 : swp 32 73 (ren2 3000 2000 19 20 3000) = 19 := by decide
  have e2 : swp 32 73 (ren2 3000 2000 19 20 2000) = 20 := by decide
  have e3 : swp 32 73 (ren2 3000 2000 19 20 32) = 73 := by decide
  simpa only [D.renL, D.ren, renH, Ob.ren, List.map_cons, List.map_nil, e1, e2, e3] using h
theorem add98 (s : ByteArray) (sc : Bool) (l : List Tk) (k : Int) (a b : Nat) (h1 : a ≤ b) (h2 : b ≤ s.size) (hl : l.length ≤ 100000000000) :
    SpH (cx Try.prog mixed tyT_ok E) 35 [.ptr 19 0, i64 k, i64 a, i64 b] (scH s sc 19 20 l.length (rowT l)) (.tup []) (scH s sc 19 98 (l ++ [tkOf s k a b]).length (rowT (l ++ [tkOf s k a b]))) := by
  have h := ((add_sp E s sc l k a b h1 h2 hl).to2 3000 2000 19 20).swap 32 98
  have e1 : swp 32 98 (ren2 3000 2000 19 20 3000) = 19 := by decide
  have e2 : swp 32 98 (ren2 3000 2000 19 20 2000) = 20 := by decide
  have e3 : swp 32 98 (ren2 3000 2000 19 20 32) = 98 := by decide
  simpa only [D.renL, D.ren, renH, Ob.ren, List.map_cons, List.map_nil, e1, e2, e3] using h
theorem add108 (s : ByteArray) (sc : Bool) (l : List Tk) (k : Int) (a b : Nat) (h1 : a ≤ b) (h2 : b ≤ s.size) (hl : l.length ≤ 100000000000) :
    SpH (cx Try.prog mixed tyT_ok E) 35 [.ptr 19 0, i64 k, i64 a, i64 b] (scH s sc 19 20 l.length (rowT l)) (.tup []) (scH s sc 19 108 (l ++ [tkOf s k a b]).length (rowT (l ++ [tkOf s k a b]))) := by
  have h := ((add_sp E s sc l k a b h1 h2 hl).to2 3000 2000 19 20).swap 32 108
  have e1 : swp 32 108 (ren2 3000 2000 19 20 3000) = 19 := by decide
  have e2 : swp 32 108 (ren2 3000 2000 19 20 2000) = 20 := by decide
  have e3 : swp 32 108 (ren2 3000 2000 19 20 32) = 108 := by decide
  simpa only [D.renL, D.ren, renH, Ob.ren, List.map_cons, List.map_nil, e1, e2, e3] using h
set_option maxHeartbeats 8000000 in
theorem divided_sp (hML : ∀ w, E.G w → ML w) (s : ByteArray) (hs : s.size < 4294967281) (sc : Bool) : Sp (cx Try.prog mixed tyT_ok E) 21 [dS s, dB sc] (encTs (dv cmE s sc 0 [])) := by
  obtain ⟨r, hr⟩ : ∃ r, r = dv cmE s sc 0 [] := ⟨_, rfl⟩
  rw [← hr]
  refine Sp.body Try.func21 (by kernel_rfl) rfl (by kernel_rfl) (by kernel_rfl) (by kernel_rfl) ?_
  repeat' first
    | (refine facW_intro ?_; intro _)
    | refine Or.inl ?_
    | ((conv => whnf); first | (refine condW_dec ?_ ?_ <;> intro _ <;> try (exfalso; omega)) | refine condW_not ?_ | (refine condW_bool ?_ ?_ <;> intro _ <;> try (exfalso; omega)) | (refine nbC_t (fun _ => ?_) ?_) | (refine nbC_f ?_ (fun _ => ?_)))
    | refine And.intro (by first | omega | (simp only [Int.toNat_natCast] at *; omega) | (simp only [Nat.reduceAdd, Int.cast_ofNat_Int, true_and, and_true]; omega) | kernel_rfl) ?_
    | refine RegW.run ?_
    | fail
  refine ⟨Nat × List Tk, fun k => [(8, i64 k.1)], fun k => [(19, .cells [dS s, dB sc, .own 20 4 0 k.2.length])], [], fun k => [(20, 62, k.2.length, rowT k.2)], fun k => k.1 ≤ s.size ∧ k.2.length ≤ k.1 ∧ r = dv cmE s sc k.1 k.2, fun k => s.size - k.1, ⟨(0, []), ⟨Nat.zero_le _, Nat.le_refl _, hr⟩, ⟨[(20, none)], ⟨by kernel_rfl, by kernel_rfl, by kernel_rfl, by kernel_rfl, by kernel_rfl, by kernel_rfl, by kernel_rfl⟩, (by repeat' first | exact trivial | exact rfl | kernel_rfl | exact Dle.of_eq rfl | exact MLe.of_eq rfl | exact Dle.i (by omega) | exact Dle.i (by simp only [Int.toNat_natCast] at *; omega) | exact Dle.nil | exact Dle.rc Dle.nil | exact Option.some_ne_none _ | exact Or.inl rfl | exact Or.inr trivial | omega | (simp only [Int.toNat_natCast] at *; omega) | (intro _ _ _ _; exact Dle.of_eq rfl) | refine And.intro ?_ ?_)⟩⟩, fun k hk => ?_⟩
  obtain ⟨hk, hkl, hK⟩ := hk
  by_cases hlt : k.1 < s.size
  · have h1 : Sp (cx Try.prog mixed tyT_ok E) 31 [.v (.int .u8 ((bAt s ((k.1 : Int)).toNat).toNat : Int))] (dB (badB (at_ s k.1))) := badByte_sp E (at_ s k.1)
    have h2 : Sp (cx Try.prog mixed tyT_ok E) 32 [.v (.int .u8 ((bAt s ((k.1 : Int)).toNat).toNat : Int))] (dB (blkB (at_ s k.1))) := isBlank_sp E (at_ s k.1)
    have h3 := comment19 E hML s hs sc k.2.length (rowT k.2) k.1 hk
    have h4 := blank19 E hML s hs sc k.2.length (rowT k.2) k.1 hk
    have h7 := isMark19 E s sc k.2.length (rowT k.2) k.1
    have e0 : ((bAt s ((k.1 : Int)).toNat).toNat : Int) = at_ s k.1 := rfl
    cases hb : badB (at_ s k.1) <;> rw [hb] at h1
    · by_cases hbl : blkB (at_ s k.1) = true ∨ 0 ≤ cmE s sc k.1
      · have hnx := nx_blank (c := cmE) (sc := sc) hb hbl
        rcases bl_or (cmE_ok s sc) hk with ⟨e0', a0, m, hm, hm1, hm2, hm3⟩ | ⟨e1, i1⟩
        · rw [if_neg (by rw [e0']; decide), hm, show ((m : Int)).toNat = m from rfl] at hnx
          have hr2 := hK.trans (dv_ok hlt hnx (hm3 ⟨hlt, hbl⟩))
          rw [hm, a0, e0'] at h4
          have h9 := add73 E s sc k.2 4 k.1 m (by omega) hm2 (by omega)
          have hin : m ≤ s.size ∧ (k.2 ++ [tkOf s 4 k.1 m]).length ≤ m ∧ r = dv cmE s sc m (k.2 ++ [tkOf s 4 k.1 m]) := ⟨hm2, by rw [List.length_append]; show _ + 1 ≤ _; have := hm3 ⟨hlt, hbl⟩; omega, hr2⟩
          have hmm := hm3 ⟨hlt, hbl⟩
          cases hk0 : blkB (at_ s k.1) <;> rw [hk0] at h2
          · have hy : 0 ≤ cmE s sc k.1 := hbl.resolve_left (by rw [hk0]; decide)
            generalize cmE s sc k.1 = y at *
            repeat' first
              | refine Or.inr ⟨_, _, _, h3, by kernel_rfl, (by repeat' first | exact trivial | exact rfl | kernel_rfl | exact Dle.of_eq rfl | exact MLe.of_eq rfl | exact Dle.i (by omega) | exact Dle.i (by simp only [Int.toNat_natCast] at *; omega) | exact Dle.nil | exact Dle.rc Dle.nil | exact Option.some_ne_none _ | exact Or.inl rfl | exact Or.inr trivial | omega | (simp only [Int.toNat_natCast] at *; omega) | (intro _ _ _ _; exact Dle.of_eq rfl) | refine And.intro ?_ ?_), ?_⟩
              | refine Or.inr ⟨_, _, _, h4, by kernel_rfl, (by repeat' first | exact trivial | exact rfl | kernel_rfl | exact Dle.of_eq rfl | exact MLe.of_eq rfl | exact Dle.i (by omega) | exact Dle.i (by simp only [Int.toNat_natCast] at *; omega) | exact Dle.nil | exact Dle.rc Dle.nil | exact Option.some_ne_none _ | exact Or.inl rfl | exact Or.inr trivial | omega | (simp only [Int.toNat_natCast] at *; omega) | (intro _ _ _ _; exact Dle.of_eq rfl) | refine And.intro ?_ ?_), ?_⟩
              | refine Or.inr ⟨_, _, _, h9, by kernel_rfl, (by repeat' first | exact trivial | exact rfl | kernel_rfl | exact Dle.of_eq rfl | exact MLe.of_eq rfl | exact Dle.i (by omega) | exact Dle.i (by simp only [Int.toNat_natCast] at *; omega) | exact Dle.nil | exact Dle.rc Dle.nil | exact Option.some_ne_none _ | exact Or.inl rfl | exact Or.inr trivial | omega | (simp only [Int.toNat_natCast] at *; omega) | (intro _ _ _ _; exact Dle.of_eq rfl) | refine And.intro ?_ ?_), ?_⟩
              | (refine facW_intro ?_; intro _)
              | refine Or.inl ?_
              | ((conv => whnf); first | (refine condW_dec ?_ ?_ <;> intro _ <;> try (exfalso; omega)) | refine condW_not ?_ | (refine condW_bool ?_ ?_ <;> intro _ <;> try (exfalso; omega)) | (refine nbC_t (fun _ => ?_) ?_) | (refine nbC_f ?_ (fun _ => ?_)))
              | refine And.intro (by first | omega | (simp only [Int.toNat_natCast] at *; omega) | (simp only [Nat.reduceAdd, Int.cast_ofNat_Int, true_and, and_true]; omega) | kernel_rfl) ?_
              | refine RegW.run ?_
              | refine ⟨_, h1, ?_⟩
              | refine ⟨_, h2, ?_⟩
              | fail
            all_goals first
              | (exfalso; rename_i h; exact h rfl)
              | exact ⟨(m, k.2 ++ [tkOf s 4 k.1 m]), hin, ⟨[(20, some 73)], ⟨by kernel_rfl, by kernel_rfl, by kernel_rfl, by kernel_rfl, by kernel_rfl, by kernel_rfl, by kernel_rfl⟩, (by repeat' first | exact trivial | exact rfl | kernel_rfl | exact Dle.of_eq rfl | exact MLe.of_eq rfl | exact Dle.i (by omega) | exact Dle.i (by simp only [Int.toNat_natCast] at *; omega) | exact Dle.nil | exact Dle.rc Dle.nil | exact Option.some_ne_none _ | exact Or.inl rfl | exact Or.inr trivial | omega | (simp only [Int.toNat_natCast] at *; omega) | (intro _ _ _ _; exact Dle.of_eq rfl) | refine And.intro ?_ ?_)⟩, by first | omega | (dsimp only; omega)⟩
              | trace_state
          · repeat' first
              | refine Or.inr ⟨_, _, _, h3, by kernel_rfl, (by repeat' first | exact trivial | exact rfl | kernel_rfl | exact Dle.of_eq rfl | exact MLe.of_eq rfl | exact Dle.i (by omega) | exact Dle.i (by simp only [Int.toNat_natCast] at *; omega) | exact Dle.nil | exact Dle.rc Dle.nil | exact Option.some_ne_none _ | exact Or.inl rfl | exact Or.inr trivial | omega | (simp only [Int.toNat_natCast] at *; omega) | (intro _ _ _ _; exact Dle.of_eq rfl) | refine And.intro ?_ ?_), ?_⟩
              | refine Or.inr ⟨_, _, _, h4, by kernel_rfl, (by repeat' first | exact trivial | exact rfl | kernel_rfl | exact Dle.of_eq rfl | exact MLe.of_eq rfl | exact Dle.i (by omega) | exact Dle.i (by simp only [Int.toNat_natCast] at *; omega) | exact Dle.nil | exact Dle.rc Dle.nil | exact Option.some_ne_none _ | exact Or.inl rfl | exact Or.inr trivial | omega | (simp only [Int.toNat_natCast] at *; omega) | (intro _ _ _ _; exact Dle.of_eq rfl) | refine And.intro ?_ ?_), ?_⟩
              | refine Or.inr ⟨_, _, _, h9, by kernel_rfl, (by repeat' first | exact trivial | exact rfl | kernel_rfl | exact Dle.of_eq rfl | exact MLe.of_eq rfl | exact Dle.i (by omega) | exact Dle.i (by simp only [Int.toNat_natCast] at *; omega) | exact Dle.nil | exact Dle.rc Dle.nil | exact Option.some_ne_none _ | exact Or.inl rfl | exact Or.inr trivial | omega | (simp only [Int.toNat_natCast] at *; omega) | (intro _ _ _ _; exact Dle.of_eq rfl) | refine And.intro ?_ ?_), ?_⟩
              | (refine facW_intro ?_; intro _)
              | refine Or.inl ?_
              | ((conv => whnf); first | (refine condW_dec ?_ ?_ <;> intro _ <;> try (exfalso; omega)) | refine condW_not ?_ | (refine condW_bool ?_ ?_ <;> intro _ <;> try (exfalso; omega)) | (refine nbC_t (fun _ => ?_) ?_) | (refine nbC_f ?_ (fun _ => ?_)))
              | refine And.intro (by first | omega | (simp only [Int.toNat_natCast] at *; omega) | (simp only [Nat.reduceAdd, Int.cast_ofNat_Int, true_and, and_true]; omega) | kernel_rfl) ?_
              | refine RegW.run ?_
              | refine ⟨_, h1, ?_⟩
              | refine ⟨_, h2, ?_⟩
              | fail
            all_goals first
              | (exfalso; rename_i h; exact h rfl)
              | exact ⟨(m, k.2 ++ [tkOf s 4 k.1 m]), hin, ⟨[(20, some 73)], ⟨by kernel_rfl, by kernel_rfl, by kernel_rfl, by kernel_rfl, by kernel_rfl, by kernel_rfl, by kernel_rfl⟩, (by repeat' first | exact trivial | exact rfl | kernel_rfl | exact Dle.of_eq rfl | exact MLe.of_eq rfl | exact Dle.i (by omega) | exact Dle.i (by simp only [Int.toNat_natCast] at *; omega) | exact Dle.nil | exact Dle.rc Dle.nil | exact Option.some_ne_none _ | exact Or.inl rfl | exact Or.inr trivial | omega | (simp only [Int.toNat_natCast] at *; omega) | (intro _ _ _ _; exact Dle.of_eq rfl) | refine And.intro ?_ ?_)⟩, by first | omega | (dsimp only; omega)⟩
              | trace_state
        · rw [if_pos e1] at hnx
          have hr2 := hK.trans (dv_no hlt hnx)
          generalize (bl cmE s sc k.1).i = z1 at *
          generalize (bl cmE s sc k.1).at' = z2 at *
          generalize (bl cmE s sc k.1).e = z3 at *
          cases hk0 : blkB (at_ s k.1) <;> rw [hk0] at h2
          · have hy : 0 ≤ cmE s sc k.1 := hbl.resolve_left (by rw [hk0]; decide)
            generalize cmE s sc k.1 = y at *
            repeat' first
              | refine Or.inr ⟨_, _, _, h3, by kernel_rfl, (by repeat' first | exact trivial | exact rfl | kernel_rfl | exact Dle.of_eq rfl | exact MLe.of_eq rfl | exact Dle.i (by omega) | exact Dle.i (by simp only [Int.toNat_natCast] at *; omega) | exact Dle.nil | exact Dle.rc Dle.nil | exact Option.some_ne_none _ | exact Or.inl rfl | exact Or.inr trivial | omega | (simp only [Int.toNat_natCast] at *; omega) | (intro _ _ _ _; exact Dle.of_eq rfl) | refine And.intro ?_ ?_), ?_⟩
              | refine Or.inr ⟨_, _, _, h4, by kernel_rfl, (by repeat' first | exact trivial | exact rfl | kernel_rfl | exact Dle.of_eq rfl | exact MLe.of_eq rfl | exact Dle.i (by omega) | exact Dle.i (by simp only [Int.toNat_natCast] at *; omega) | exact Dle.nil | exact Dle.rc Dle.nil | exact Option.some_ne_none _ | exact Or.inl rfl | exact Or.inr trivial | omega | (simp only [Int.toNat_natCast] at *; omega) | (intro _ _ _ _; exact Dle.of_eq rfl) | refine And.intro ?_ ?_), ?_⟩
              | (refine facW_intro ?_; intro _)
              | refine Or.inl ?_
              | ((conv => whnf); first | (refine condW_dec ?_ ?_ <;> intro _ <;> try (exfalso; omega)) | refine condW_not ?_ | (refine condW_bool ?_ ?_ <;> intro _ <;> try (exfalso; omega)) | (refine nbC_t (fun _ => ?_) ?_) | (refine nbC_f ?_ (fun _ => ?_)))
              | refine And.intro (by first | omega | (simp only [Int.toNat_natCast] at *; omega) | (simp only [Nat.reduceAdd, Int.cast_ofNat_Int, true_and, and_true]; omega) | kernel_rfl) ?_
              | refine RegW.run ?_
              | refine ⟨_, h1, ?_⟩
              | refine ⟨_, h2, ?_⟩
              | fail
            all_goals first
              | (exfalso; rename_i h; exact h rfl)
              | exact dle_err E hr2
              | (exfalso; rename_i h; exact e1 h)
              | trace_state
          · repeat' first
              | refine Or.inr ⟨_, _, _, h3, by kernel_rfl, (by repeat' first | exact trivial | exact rfl | kernel_rfl | exact Dle.of_eq rfl | exact MLe.of_eq rfl | exact Dle.i (by omega) | exact Dle.i (by simp only [Int.toNat_natCast] at *; omega) | exact Dle.nil | exact Dle.rc Dle.nil | exact Option.some_ne_none _ | exact Or.inl rfl | exact Or.inr trivial | omega | (simp only [Int.toNat_natCast] at *; omega) | (intro _ _ _ _; exact Dle.of_eq rfl) | refine And.intro ?_ ?_), ?_⟩
              | refine Or.inr ⟨_, _, _, h4, by kernel_rfl, (by repeat' first | exact trivial | exact rfl | kernel_rfl | exact Dle.of_eq rfl | exact MLe.of_eq rfl | exact Dle.i (by omega) | exact Dle.i (by simp only [Int.toNat_natCast] at *; omega) | exact Dle.nil | exact Dle.rc Dle.nil | exact Option.some_ne_none _ | exact Or.inl rfl | exact Or.inr trivial | omega | (simp only [Int.toNat_natCast] at *; omega) | (intro _ _ _ _; exact Dle.of_eq rfl) | refine And.intro ?_ ?_), ?_⟩
              | (refine facW_intro ?_; intro _)
              | refine Or.inl ?_
              | ((conv => whnf); first | (refine condW_dec ?_ ?_ <;> intro _ <;> try (exfalso; omega)) | refine condW_not ?_ | (refine condW_bool ?_ ?_ <;> intro _ <;> try (exfalso; omega)) | (refine nbC_t (fun _ => ?_) ?_) | (refine nbC_f ?_ (fun _ => ?_)))
              | refine And.intro (by first | omega | (simp only [Int.toNat_natCast] at *; omega) | (simp only [Nat.reduceAdd, Int.cast_ofNat_Int, true_and, and_true]; omega) | kernel_rfl) ?_
              | refine RegW.run ?_
              | refine ⟨_, h1, ?_⟩
              | refine ⟨_, h2, ?_⟩
              | fail
            all_goals first
              | (exfalso; rename_i h; exact h rfl)
              | exact dle_err E hr2
              | (exfalso; rename_i h; exact e1 h)
              | trace_state
      · have hk0 : blkB (at_ s k.1) = false := by cases h : blkB (at_ s k.1); rfl; exact absurd (.inl h) hbl
        have hy : cmE s sc k.1 < 0 := by
          rcases Int.lt_or_le (cmE s sc k.1) 0 with h | h
          · exact h
          · exact absurd (.inr h) hbl
        rw [hk0] at h2
        by_cases hq : at_ s k.1 = 34 ∨ at_ s k.1 = 39
        · have hnx := nx_str (c := cmE) (sc := sc) hb hk0 hy hq
          have h5 := text19 E s hs sc k.2.length (rowT k.2) k.1 hlt hq
          rcases txt_or s (at_ s k.1) (k.1 + 1) with ht | ⟨m, ht, hm1, hm2⟩ <;> rw [ht] at hnx h5
          · rw [if_pos (by decide)] at hnx
            have hr2 := hK.trans (dv_no hlt hnx)
            generalize cmE s sc k.1 = y at *
            repeat' first
              | refine Or.inr ⟨_, _, _, h3, by kernel_rfl, (by repeat' first | exact trivial | exact rfl | kernel_rfl | exact Dle.of_eq rfl | exact MLe.of_eq rfl | exact Dle.i (by omega) | exact Dle.i (by simp only [Int.toNat_natCast] at *; omega) | exact Dle.nil | exact Dle.rc Dle.nil | exact Option.some_ne_none _ | exact Or.inl rfl | exact Or.inr trivial | omega | (simp only [Int.toNat_natCast] at *; omega) | (intro _ _ _ _; exact Dle.of_eq rfl) | refine And.intro ?_ ?_), ?_⟩
              | refine Or.inr ⟨_, _, _, h5, by kernel_rfl, (by repeat' first | exact trivial | exact rfl | kernel_rfl | exact Dle.of_eq rfl | exact MLe.of_eq rfl | exact Dle.i (by omega) | exact Dle.i (by simp only [Int.toNat_natCast] at *; omega) | exact Dle.nil | exact Dle.rc Dle.nil | exact Option.some_ne_none _ | exact Or.inl rfl | exact Or.inr trivial | omega | (simp only [Int.toNat_natCast] at *; omega) | (intro _ _ _ _; exact Dle.of_eq rfl) | refine And.intro ?_ ?_), ?_⟩
              | (refine facW_intro ?_; intro _)
              | refine Or.inl ?_
              | ((conv => whnf); first | (refine condW_dec ?_ ?_ <;> intro _ <;> try (exfalso; omega)) | refine condW_not ?_ | (refine condW_bool ?_ ?_ <;> intro _ <;> try (exfalso; omega)) | (refine nbC_t (fun _ => ?_) ?_) | (refine nbC_f ?_ (fun _ => ?_)))
              | refine And.intro (by first | omega | (simp only [Int.toNat_natCast] at *; omega) | (simp only [Nat.reduceAdd, Int.cast_ofNat_Int, true_and, and_true]; omega) | kernel_rfl) ?_
              | refine RegW.run ?_
              | refine ⟨_, h1, ?_⟩
              | refine ⟨_, h2, ?_⟩
              | fail
            all_goals first
              | (exfalso; rename_i h; exact h rfl)
              | exact dle_err E hr2
              | (exfalso; omega)
              | trace_state
          · rw [if_neg (by omega), show ((m : Int)).toNat = m from rfl] at hnx
            have h6 := checked19 E s hs sc k.2.length (rowT k.2) k.1 m hm2
            by_cases hc : 0 ≤ chk s k.1 m
            · rw [if_pos hc] at hnx
              have hr2 := hK.trans (dv_no hlt hnx)
              generalize cmE s sc k.1 = y at *
              generalize chk s k.1 m = z at *
              repeat' first
                | refine Or.inr ⟨_, _, _, h3, by kernel_rfl, (by repeat' first | exact trivial | exact rfl | kernel_rfl | exact Dle.of_eq rfl | exact MLe.of_eq rfl | exact Dle.i (by omega) | exact Dle.i (by simp only [Int.toNat_natCast] at *; omega) | exact Dle.nil | exact Dle.rc Dle.nil | exact Option.some_ne_none _ | exact Or.inl rfl | exact Or.inr trivial | omega | (simp only [Int.toNat_natCast] at *; omega) | (intro _ _ _ _; exact Dle.of_eq rfl) | refine And.intro ?_ ?_), ?_⟩
                | refine Or.inr ⟨_, _, _, h5, by kernel_rfl, (by repeat' first | exact trivial | exact rfl | kernel_rfl | exact Dle.of_eq rfl | exact MLe.of_eq rfl | exact Dle.i (by omega) | exact Dle.i (by simp only [Int.toNat_natCast] at *; omega) | exact Dle.nil | exact Dle.rc Dle.nil | exact Option.some_ne_none _ | exact Or.inl rfl | exact Or.inr trivial | omega | (simp only [Int.toNat_natCast] at *; omega) | (intro _ _ _ _; exact Dle.of_eq rfl) | refine And.intro ?_ ?_), ?_⟩
                | refine Or.inr ⟨_, _, _, h6, by kernel_rfl, (by repeat' first | exact trivial | exact rfl | kernel_rfl | exact Dle.of_eq rfl | exact MLe.of_eq rfl | exact Dle.i (by omega) | exact Dle.i (by simp only [Int.toNat_natCast] at *; omega) | exact Dle.nil | exact Dle.rc Dle.nil | exact Option.some_ne_none _ | exact Or.inl rfl | exact Or.inr trivial | omega | (simp only [Int.toNat_natCast] at *; omega) | (intro _ _ _ _; exact Dle.of_eq rfl) | refine And.intro ?_ ?_), ?_⟩
                | (refine facW_intro ?_; intro _)
                | refine Or.inl ?_
                | ((conv => whnf); first | (refine condW_dec ?_ ?_ <;> intro _ <;> try (exfalso; omega)) | refine condW_not ?_ | (refine condW_bool ?_ ?_ <;> intro _ <;> try (exfalso; omega)) | (refine nbC_t (fun _ => ?_) ?_) | (refine nbC_f ?_ (fun _ => ?_)))
                | refine And.intro (by first | omega | (simp only [Int.toNat_natCast] at *; omega) | (simp only [Nat.reduceAdd, Int.cast_ofNat_Int, true_and, and_true]; omega) | kernel_rfl) ?_
                | refine RegW.run ?_
                | refine ⟨_, h1, ?_⟩
                | refine ⟨_, h2, ?_⟩
                | fail
              all_goals first
                | (exfalso; rename_i h; exact h rfl)
                | exact dle_err E hr2
                | (exfalso; omega)
                | trace_state
            · rw [if_neg hc] at hnx
              have hr2 := hK.trans (dv_ok hlt hnx (by omega))
              have h9 := add98 E s sc k.2 2 k.1 m (by omega) hm2 (by omega)
              have hin : m ≤ s.size ∧ (k.2 ++ [tkOf s 2 k.1 m]).length ≤ m ∧ r = dv cmE s sc m (k.2 ++ [tkOf s 2 k.1 m]) := ⟨hm2, by rw [List.length_append]; show _ + 1 ≤ _; omega, hr2⟩
              generalize cmE s sc k.1 = y at *
              generalize chk s k.1 m = z at *
              repeat' first
                | refine Or.inr ⟨_, _, _, h3, by kernel_rfl, (by repeat' first | exact trivial | exact rfl | kernel_rfl | exact Dle.of_eq rfl | exact MLe.of_eq rfl | exact Dle.i (by omega) | exact Dle.i (by simp only [Int.toNat_natCast] at *; omega) | exact Dle.nil | exact Dle.rc Dle.nil | exact Option.some_ne_none _ | exact Or.inl rfl | exact Or.inr trivial | omega | (simp only [Int.toNat_natCast] at *; omega) | (intro _ _ _ _; exact Dle.of_eq rfl) | refine And.intro ?_ ?_), ?_⟩
                | refine Or.inr ⟨_, _, _, h5, by kernel_rfl, (by repeat' first | exact trivial | exact rfl | kernel_rfl | exact Dle.of_eq rfl | exact MLe.of_eq rfl | exact Dle.i (by omega) | exact Dle.i (by simp only [Int.toNat_natCast] at *; omega) | exact Dle.nil | exact Dle.rc Dle.nil | exact Option.some_ne_none _ | exact Or.inl rfl | exact Or.inr trivial | omega | (simp only [Int.toNat_natCast] at *; omega) | (intro _ _ _ _; exact Dle.of_eq rfl) | refine And.intro ?_ ?_), ?_⟩
                | refine Or.inr ⟨_, _, _, h6, by kernel_rfl, (by repeat' first | exact trivial | exact rfl | kernel_rfl | exact Dle.of_eq rfl | exact MLe.of_eq rfl | exact Dle.i (by omega) | exact Dle.i (by simp only [Int.toNat_natCast] at *; omega) | exact Dle.nil | exact Dle.rc Dle.nil | exact Option.some_ne_none _ | exact Or.inl rfl | exact Or.inr trivial | omega | (simp only [Int.toNat_natCast] at *; omega) | (intro _ _ _ _; exact Dle.of_eq rfl) | refine And.intro ?_ ?_), ?_⟩
                | refine Or.inr ⟨_, _, _, h9, by kernel_rfl, (by repeat' first | exact trivial | exact rfl | kernel_rfl | exact Dle.of_eq rfl | exact MLe.of_eq rfl | exact Dle.i (by omega) | exact Dle.i (by simp only [Int.toNat_natCast] at *; omega) | exact Dle.nil | exact Dle.rc Dle.nil | exact Option.some_ne_none _ | exact Or.inl rfl | exact Or.inr trivial | omega | (simp only [Int.toNat_natCast] at *; omega) | (intro _ _ _ _; exact Dle.of_eq rfl) | refine And.intro ?_ ?_), ?_⟩
                | (refine facW_intro ?_; intro _)
                | refine Or.inl ?_
                | ((conv => whnf); first | (refine condW_dec ?_ ?_ <;> intro _ <;> try (exfalso; omega)) | refine condW_not ?_ | (refine condW_bool ?_ ?_ <;> intro _ <;> try (exfalso; omega)) | (refine nbC_t (fun _ => ?_) ?_) | (refine nbC_f ?_ (fun _ => ?_)))
                | refine And.intro (by first | omega | (simp only [Int.toNat_natCast] at *; omega) | (simp only [Nat.reduceAdd, Int.cast_ofNat_Int, true_and, and_true]; omega) | kernel_rfl) ?_
                | refine RegW.run ?_
                | refine ⟨_, h1, ?_⟩
                | refine ⟨_, h2, ?_⟩
                | fail
              all_goals first
                | (exfalso; rename_i h; exact h rfl)
                | exact ⟨(m, k.2 ++ [tkOf s 2 k.1 m]), hin, ⟨[(20, some 98)], ⟨by kernel_rfl, by kernel_rfl, by kernel_rfl, by kernel_rfl, by kernel_rfl, by kernel_rfl, by kernel_rfl⟩, (by repeat' first | exact trivial | exact rfl | kernel_rfl | exact Dle.of_eq rfl | exact MLe.of_eq rfl | exact Dle.i (by omega) | exact Dle.i (by simp only [Int.toNat_natCast] at *; omega) | exact Dle.nil | exact Dle.rc Dle.nil | exact Option.some_ne_none _ | exact Or.inl rfl | exact Or.inr trivial | omega | (simp only [Int.toNat_natCast] at *; omega) | (intro _ _ _ _; exact Dle.of_eq rfl) | refine And.intro ?_ ?_)⟩, by first | omega | (dsimp only; omega)⟩
                | (exfalso; omega)
                | trace_state
        · cases hmk : markB sc (at_ s k.1) <;> rw [hmk] at h7
          · have hnx := nx_word (c := cmE) (sc := sc) hb hk0 hy hq hmk
            have hw := we_or (c := cmE) (s := s) (sc := sc) (i := k.1 + 1) (by omega)
            have hr2 := hK.trans (dv_ok hlt hnx (by omega))
            generalize cmE s sc k.1 = y at *
            repeat' first
              | refine Or.inr ⟨_, _, _, h3, by kernel_rfl, (by repeat' first | exact trivial | exact rfl | kernel_rfl | exact Dle.of_eq rfl | exact MLe.of_eq rfl | exact Dle.i (by omega) | exact Dle.i (by simp only [Int.toNat_natCast] at *; omega) | exact Dle.nil | exact Dle.rc Dle.nil | exact Option.some_ne_none _ | exact Or.inl rfl | exact Or.inr trivial | omega | (simp only [Int.toNat_natCast] at *; omega) | (intro _ _ _ _; exact Dle.of_eq rfl) | refine And.intro ?_ ?_), ?_⟩
              | refine Or.inr ⟨_, _, _, h7, by kernel_rfl, (by repeat' first | exact trivial | exact rfl | kernel_rfl | exact Dle.of_eq rfl | exact MLe.of_eq rfl | exact Dle.i (by omega) | exact Dle.i (by simp only [Int.toNat_natCast] at *; omega) | exact Dle.nil | exact Dle.rc Dle.nil | exact Option.some_ne_none _ | exact Or.inl rfl | exact Or.inr trivial | omega | (simp only [Int.toNat_natCast] at *; omega) | (intro _ _ _ _; exact Dle.of_eq rfl) | refine And.intro ?_ ?_), ?_⟩
              | (refine facW_intro ?_; intro _)
              | refine Or.inl ?_
              | ((conv => whnf); first | (refine condW_dec ?_ ?_ <;> intro _ <;> try (exfalso; omega)) | refine condW_not ?_ | (refine condW_bool ?_ ?_ <;> intro _ <;> try (exfalso; omega)) | (refine nbC_t (fun _ => ?_) ?_) | (refine nbC_f ?_ (fun _ => ?_)))
              | refine And.intro (by first | omega | (simp only [Int.toNat_natCast] at *; omega) | (simp only [Nat.reduceAdd, Int.cast_ofNat_Int, true_and, and_true]; omega) | kernel_rfl) ?_
              | refine RegW.run ?_
              | refine ⟨_, h1, ?_⟩
              | refine ⟨_, h2, ?_⟩
              | fail
            all_goals try (exfalso; rename_i h; exact h rfl)
            all_goals try (exfalso; omega)
            refine ⟨Nat, fun j => [(15, i64 j)], fun j => [], [19, 20], fun j => [], fun j => k.1 < j ∧ j ≤ s.size ∧ we cmE s sc (k.1 + 1) = we cmE s sc j, fun j => s.size - j, ⟨k.1 + 1, ⟨by omega, by omega, rfl⟩, ⟨[], ⟨by kernel_rfl, by kernel_rfl, by kernel_rfl, by kernel_rfl, by kernel_rfl, by kernel_rfl, by kernel_rfl⟩, (by repeat' first | (exact Dle.i (by omega)) | exact trivial | exact rfl | kernel_rfl | exact Dle.of_eq rfl | exact MLe.of_eq rfl | exact Dle.i (by omega) | exact Dle.i (by simp only [Int.toNat_natCast] at *; omega) | exact Dle.nil | exact Dle.rc Dle.nil | exact Option.some_ne_none _ | exact Or.inl rfl | exact Or.inr trivial | omega | (simp only [Int.toNat_natCast] at *; omega) | (intro _ _ _ _; exact Dle.of_eq rfl) | refine And.intro ?_ ?_)⟩⟩, fun j hj => ?_⟩
            obtain ⟨hj1, hj2, hJ⟩ := hj
            by_cases hjl : j < s.size
            · have h8 := begins19 E hML s hs sc k.2.length (rowT k.2) j hjl
              cases hbe : begB cmE s sc j <;> rw [hbe] at h8
              · have hJ2 := hJ.trans (we_go hjl hbe)
                repeat' first
                  | refine Or.inr ⟨_, _, _, h8, by kernel_rfl, (by repeat' first | exact trivial | exact rfl | kernel_rfl | exact Dle.of_eq rfl | exact MLe.of_eq rfl | exact Dle.i (by omega) | exact Dle.i (by simp only [Int.toNat_natCast] at *; omega) | exact Dle.nil | exact Dle.rc Dle.nil | exact Option.some_ne_none _ | exact Or.inl rfl | exact Or.inr trivial | omega | (simp only [Int.toNat_natCast] at *; omega) | (intro _ _ _ _; exact Dle.of_eq rfl) | refine And.intro ?_ ?_), ?_⟩
                  | (refine facW_intro ?_; intro _)
                  | refine Or.inl ?_
                  | ((conv => whnf); first | (refine condW_dec ?_ ?_ <;> intro _ <;> try (exfalso; omega)) | refine condW_not ?_ | (refine condW_bool ?_ ?_ <;> intro _ <;> try (exfalso; omega)) | (refine nbC_t (fun _ => ?_) ?_) | (refine nbC_f ?_ (fun _ => ?_)))
                  | refine And.intro (by first | omega | (simp only [Int.toNat_natCast] at *; omega) | (simp only [Nat.reduceAdd, Int.cast_ofNat_Int, true_and, and_true]; omega) | kernel_rfl) ?_
                  | refine RegW.run ?_
                  | fail
                all_goals first
                  | (exfalso; rename_i h; exact h rfl)
                  | exact ⟨j + 1, ⟨by omega, by omega, hJ2⟩, ⟨[], ⟨by kernel_rfl, by kernel_rfl, by kernel_rfl, by kernel_rfl, by kernel_rfl, by kernel_rfl, by kernel_rfl⟩, (by repeat' first | exact trivial | exact rfl | kernel_rfl | exact Dle.of_eq rfl | exact MLe.of_eq rfl | exact Dle.i (by omega) | exact Dle.i (by simp only [Int.toNat_natCast] at *; omega) | exact Dle.nil | exact Dle.rc Dle.nil | exact Option.some_ne_none _ | exact Or.inl rfl | exact Or.inr trivial | omega | (simp only [Int.toNat_natCast] at *; omega) | (intro _ _ _ _; exact Dle.of_eq rfl) | refine And.intro ?_ ?_)⟩, by first | omega | (dsimp only; omega)⟩
                  | trace_state
              · have hJ2 := hJ.trans (we_stop hjl hbe)
                rw [hJ2] at hr2
                have h9 := add44 E s sc k.2 1 k.1 j (by omega) hj2 (by omega)
                have hin : j ≤ s.size ∧ (k.2 ++ [tkOf s 1 k.1 j]).length ≤ j ∧ r = dv cmE s sc j (k.2 ++ [tkOf s 1 k.1 j]) := ⟨hj2, by rw [List.length_append]; show _ + 1 ≤ _; omega, hr2⟩
                repeat' first
                  | refine Or.inr ⟨_, _, _, h8, by kernel_rfl, (by repeat' first | exact trivial | exact rfl | kernel_rfl | exact Dle.of_eq rfl | exact MLe.of_eq rfl | exact Dle.i (by omega) | exact Dle.i (by simp only [Int.toNat_natCast] at *; omega) | exact Dle.nil | exact Dle.rc Dle.nil | exact Option.some_ne_none _ | exact Or.inl rfl | exact Or.inr trivial | omega | (simp only [Int.toNat_natCast] at *; omega) | (intro _ _ _ _; exact Dle.of_eq rfl) | refine And.intro ?_ ?_), ?_⟩
                  | refine Or.inr ⟨_, _, _, h9, by kernel_rfl, (by repeat' first | exact trivial | exact rfl | kernel_rfl | exact Dle.of_eq rfl | exact MLe.of_eq rfl | exact Dle.i (by omega) | exact Dle.i (by simp only [Int.toNat_natCast] at *; omega) | exact Dle.nil | exact Dle.rc Dle.nil | exact Option.some_ne_none _ | exact Or.inl rfl | exact Or.inr trivial | omega | (simp only [Int.toNat_natCast] at *; omega) | (intro _ _ _ _; exact Dle.of_eq rfl) | refine And.intro ?_ ?_), ?_⟩
                  | (refine facW_intro ?_; intro _)
                  | refine Or.inl ?_
                  | ((conv => whnf); first | (refine condW_dec ?_ ?_ <;> intro _ <;> try (exfalso; omega)) | refine condW_not ?_ | (refine condW_bool ?_ ?_ <;> intro _ <;> try (exfalso; omega)) | (refine nbC_t (fun _ => ?_) ?_) | (refine nbC_f ?_ (fun _ => ?_)))
                  | refine And.intro (by first | omega | (simp only [Int.toNat_natCast] at *; omega) | (simp only [Nat.reduceAdd, Int.cast_ofNat_Int, true_and, and_true]; omega) | kernel_rfl) ?_
                  | refine RegW.run ?_
                  | fail
                all_goals first
                  | (exfalso; rename_i h; exact h rfl)
                  | exact ⟨(j, k.2 ++ [tkOf s 1 k.1 j]), hin, ⟨[(20, some 44)], ⟨by kernel_rfl, by kernel_rfl, by kernel_rfl, by kernel_rfl, by kernel_rfl, by kernel_rfl, by kernel_rfl⟩, (by repeat' first | exact trivial | exact rfl | kernel_rfl | exact Dle.of_eq rfl | exact MLe.of_eq rfl | exact Dle.i (by omega) | exact Dle.i (by simp only [Int.toNat_natCast] at *; omega) | exact Dle.nil | exact Dle.rc Dle.nil | exact Option.some_ne_none _ | exact Or.inl rfl | exact Or.inr trivial | omega | (simp only [Int.toNat_natCast] at *; omega) | (intro _ _ _ _; exact Dle.of_eq rfl) | refine And.intro ?_ ?_)⟩, by first | omega | (dsimp only; omega)⟩
                  | trace_state
            · have hJ2 := hJ.trans (we_end hjl)
              rw [hJ2] at hr2
              have h9 := add44 E s sc k.2 1 k.1 j (by omega) hj2 (by omega)
              have hin : j ≤ s.size ∧ (k.2 ++ [tkOf s 1 k.1 j]).length ≤ j ∧ r = dv cmE s sc j (k.2 ++ [tkOf s 1 k.1 j]) := ⟨hj2, by rw [List.length_append]; show _ + 1 ≤ _; omega, hr2⟩
              repeat' first
                | refine Or.inr ⟨_, _, _, h9, by kernel_rfl, (by repeat' first | exact trivial | exact rfl | kernel_rfl | exact Dle.of_eq rfl | exact MLe.of_eq rfl | exact Dle.i (by omega) | exact Dle.i (by simp only [Int.toNat_natCast] at *; omega) | exact Dle.nil | exact Dle.rc Dle.nil | exact Option.some_ne_none _ | exact Or.inl rfl | exact Or.inr trivial | omega | (simp only [Int.toNat_natCast] at *; omega) | (intro _ _ _ _; exact Dle.of_eq rfl) | refine And.intro ?_ ?_), ?_⟩
                | (refine facW_intro ?_; intro _)
                | refine Or.inl ?_
                | ((conv => whnf); first | (refine condW_dec ?_ ?_ <;> intro _ <;> try (exfalso; omega)) | refine condW_not ?_ | (refine condW_bool ?_ ?_ <;> intro _ <;> try (exfalso; omega)) | (refine nbC_t (fun _ => ?_) ?_) | (refine nbC_f ?_ (fun _ => ?_)))
                | refine And.intro (by first | omega | (simp only [Int.toNat_natCast] at *; omega) | (simp only [Nat.reduceAdd, Int.cast_ofNat_Int, true_and, and_true]; omega) | kernel_rfl) ?_
                | refine RegW.run ?_
                | fail
              all_goals first
                | (exfalso; rename_i h; exact h rfl)
                | exact ⟨(j, k.2 ++ [tkOf s 1 k.1 j]), hin, ⟨[(20, some 44)], ⟨by kernel_rfl, by kernel_rfl, by kernel_rfl, by kernel_rfl, by kernel_rfl, by kernel_rfl, by kernel_rfl⟩, (by repeat' first | exact trivial | exact rfl | kernel_rfl | exact Dle.of_eq rfl | exact MLe.of_eq rfl | exact Dle.i (by omega) | exact Dle.i (by simp only [Int.toNat_natCast] at *; omega) | exact Dle.nil | exact Dle.rc Dle.nil | exact Option.some_ne_none _ | exact Or.inl rfl | exact Or.inr trivial | omega | (simp only [Int.toNat_natCast] at *; omega) | (intro _ _ _ _; exact Dle.of_eq rfl) | refine And.intro ?_ ?_)⟩, by first | omega | (dsimp only; omega)⟩
                | trace_state
          · have hnx := nx_mark (c := cmE) (sc := sc) hb hk0 hy hq hmk
            have hr2 := hK.trans (dv_ok hlt hnx (by omega))
            have h9 := add108 E s sc k.2 3 k.1 (k.1 + 1) (by omega) (by omega) (by omega)
            have hin : k.1 + 1 ≤ s.size ∧ (k.2 ++ [tkOf s 3 k.1 (k.1 + 1)]).length ≤ k.1 + 1 ∧ r = dv cmE s sc (k.1 + 1) (k.2 ++ [tkOf s 3 k.1 (k.1 + 1)]) := ⟨by omega, by rw [List.length_append]; show _ + 1 ≤ _; omega, hr2⟩
            generalize cmE s sc k.1 = y at *
            repeat' first
              | refine Or.inr ⟨_, _, _, h3, by kernel_rfl, (by repeat' first | exact trivial | exact rfl | kernel_rfl | exact Dle.of_eq rfl | exact MLe.of_eq rfl | exact Dle.i (by omega) | exact Dle.i (by simp only [Int.toNat_natCast] at *; omega) | exact Dle.nil | exact Dle.rc Dle.nil | exact Option.some_ne_none _ | exact Or.inl rfl | exact Or.inr trivial | omega | (simp only [Int.toNat_natCast] at *; omega) | (intro _ _ _ _; exact Dle.of_eq rfl) | refine And.intro ?_ ?_), ?_⟩
              | refine Or.inr ⟨_, _, _, h7, by kernel_rfl, (by repeat' first | exact trivial | exact rfl | kernel_rfl | exact Dle.of_eq rfl | exact MLe.of_eq rfl | exact Dle.i (by omega) | exact Dle.i (by simp only [Int.toNat_natCast] at *; omega) | exact Dle.nil | exact Dle.rc Dle.nil | exact Option.some_ne_none _ | exact Or.inl rfl | exact Or.inr trivial | omega | (simp only [Int.toNat_natCast] at *; omega) | (intro _ _ _ _; exact Dle.of_eq rfl) | refine And.intro ?_ ?_), ?_⟩
              | refine Or.inr ⟨_, _, _, h9, by kernel_rfl, (by repeat' first | exact trivial | exact rfl | kernel_rfl | exact Dle.of_eq rfl | exact MLe.of_eq rfl | exact Dle.i (by omega) | exact Dle.i (by simp only [Int.toNat_natCast] at *; omega) | exact Dle.nil | exact Dle.rc Dle.nil | exact Option.some_ne_none _ | exact Or.inl rfl | exact Or.inr trivial | omega | (simp only [Int.toNat_natCast] at *; omega) | (intro _ _ _ _; exact Dle.of_eq rfl) | refine And.intro ?_ ?_), ?_⟩
              | (refine facW_intro ?_; intro _)
              | refine Or.inl ?_
              | ((conv => whnf); first | (refine condW_dec ?_ ?_ <;> intro _ <;> try (exfalso; omega)) | refine condW_not ?_ | (refine condW_bool ?_ ?_ <;> intro _ <;> try (exfalso; omega)) | (refine nbC_t (fun _ => ?_) ?_) | (refine nbC_f ?_ (fun _ => ?_)))
              | refine And.intro (by first | omega | (simp only [Int.toNat_natCast] at *; omega) | (simp only [Nat.reduceAdd, Int.cast_ofNat_Int, true_and, and_true]; omega) | kernel_rfl) ?_
              | refine RegW.run ?_
              | refine ⟨_, h1, ?_⟩
              | refine ⟨_, h2, ?_⟩
              | fail
            all_goals first
              | (exfalso; rename_i h; exact h rfl)
              | exact ⟨(k.1 + 1, k.2 ++ [tkOf s 3 k.1 (k.1 + 1)]), hin, ⟨[(20, some 108)], ⟨by kernel_rfl, by kernel_rfl, by kernel_rfl, by kernel_rfl, by kernel_rfl, by kernel_rfl, by kernel_rfl⟩, (by repeat' first | exact trivial | exact rfl | kernel_rfl | exact Dle.of_eq rfl | exact MLe.of_eq rfl | exact Dle.i (by omega) | exact Dle.i (by simp only [Int.toNat_natCast] at *; omega) | exact Dle.nil | exact Dle.rc Dle.nil | exact Option.some_ne_none _ | exact Or.inl rfl | exact Or.inr trivial | omega | (simp only [Int.toNat_natCast] at *; omega) | (intro _ _ _ _; exact Dle.of_eq rfl) | refine And.intro ?_ ?_)⟩, by first | omega | (dsimp only; omega)⟩
              | (exfalso; omega)
              | trace_state
    · have hr2 := hK.trans (dv_no hlt (nx_bad (c := cmE) (sc := sc) hb))
      repeat' first
        | (refine facW_intro ?_; intro _)
        | refine Or.inl ?_
        | ((conv => whnf); first | (refine condW_dec ?_ ?_ <;> intro _ <;> try (exfalso; omega)) | refine condW_not ?_ | (refine condW_bool ?_ ?_ <;> intro _ <;> try (exfalso; omega)) | (refine nbC_t (fun _ => ?_) ?_) | (refine nbC_f ?_ (fun _ => ?_)))
        | refine And.intro (by first | omega | (simp only [Int.toNat_natCast] at *; omega) | (simp only [Nat.reduceAdd, Int.cast_ofNat_Int, true_and, and_true]; omega) | kernel_rfl) ?_
        | refine RegW.run ?_
        | refine ⟨_, h1, ?_⟩
        | fail
      all_goals first
        | (exfalso; rename_i h; exact h rfl)
        | exact dle_err E hr2
        | trace_state
  · have hr2 := hK.trans (dv_end hlt)
    subst hr2
    repeat' first
      | (refine facW_intro ?_; intro _)
      | refine Or.inl ?_
      | ((conv => whnf); first | (refine condW_dec ?_ ?_ <;> intro _ <;> try (exfalso; omega)) | refine condW_not ?_ | (refine condW_bool ?_ ?_ <;> intro _ <;> try (exfalso; omega)) | (refine nbC_t (fun _ => ?_) ?_) | (refine nbC_f ?_ (fun _ => ?_)))
      | refine And.intro (by first | omega | (simp only [Int.toNat_natCast] at *; omega) | (simp only [Nat.reduceAdd, Int.cast_ofNat_Int, true_and, and_true]; omega) | kernel_rfl) ?_
      | refine RegW.run ?_
      | fail
    all_goals first
      | exact Dle.refl _ _
      | trace_state
end
end tk
end Go.Proofs.Ytiiohopjkepkgaa
