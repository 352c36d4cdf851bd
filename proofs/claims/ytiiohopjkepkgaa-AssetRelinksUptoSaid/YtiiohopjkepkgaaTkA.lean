/-
  Tokens: the reference's words, its first bad byte, the first of two errors. Tokens: mastref2.TokensOf.
-/
import Derived.Test.YtiiohopjkepkgaaTk8
namespace Go.Proofs.Ytiiohopjkepkgaa
open Go.RowKit
set_option linter.unusedVariables false
set_option linter.unusedSimpArgs false
namespace tk
def mk2B (c : Nat) : Bool := decide (c ∈ [123, 125, 40, 41, 91, 93, 59, 58, 44, 62, 34, 39, 32, 9, 10])
theorem mk2_all : ∀ n : Fin 256, decide (Lib.indexByte [123, 125, 40, 41, 91, 93, 59, 58, 44, 62, 34, 39, 32, 9, 10] (UInt8.ofNat n.val) < 0) = !(mk2B n.val) := by decide +kernel
theorem mk2_c (c : UInt8) : decide (Lib.indexByte [123, 125, 40, 41, 91, 93, 59, 58, 44, 62, 34, 39, 32, 9, 10] c < 0) = !(mk2B c.toNat) := by
  have := mk2_all ⟨c.toNat, UInt8.toNat_lt c⟩
  simpa using this
/-- The reference's bytes of words. -/
def refW (s : ByteArray) (sc : Bool) (i : Nat) : Bool := if sc then wordB (at_ s i) else (!(mk2B (at_ s i)) && !(hasP s i 47 42))
theorem has_at {s : ByteArray} {i a b : Nat} (h : hasP s i a b = true) : at_ s i = a := by
  unfold hasP at h
  simp only [Bool.and_eq_true, decide_eq_true_eq] at h
  exact h.2.1
theorem cm_neg {s : ByteArray} {sc : Bool} {i : Nat} (h1 : hasP s i 47 42 = false) (h2 : sc = true → hasP s i 47 47 = false) : cmE s sc i < 0 := by
  unfold cmE cm
  rw [if_neg (by rw [h1]; decide)]
  cases sc
  · rw [if_neg (by simp)]; decide
  · rw [if_neg (by rw [h2 rfl]; decide)]; decide
theorem cm_pos {s : ByteArray} {sc : Bool} {i : Nat} (hi : i < s.size) (h1 : hasP s i 47 42 = true) : 0 ≤ cmE s sc i := by
  have h := cmE_ok s sc i hi
  have h3 := ixE_or s (i + 2) (by unfold hasP at h1; simp only [Bool.and_eq_true, decide_eq_true_eq] at h1; exact h1.1)
  unfold cmE cm
  rw [if_pos h1]
  split <;> omega
theorem has_no {s : ByteArray} {i a b : Nat} (h : ¬ at_ s i = a) : hasP s i a b = false := by
  cases h' : hasP s i a b
  · rfl
  · exact absurd (has_at h') h
theorem refW_beg {s : ByteArray} {sc : Bool} {i : Nat} (h : refW s sc i = true) (hb : badB (at_ s i) = false) : begB cmE s sc i = false := by
  have hc : cmE s sc i < 0 := by
    cases sc
    · unfold refW at h
      simp at h
      exact cm_neg (by simpa using h.2) (fun h => by cases h)
    · unfold refW at h
      rw [if_pos rfl] at h
      have h47 : ¬ at_ s i = 47 := fun e => by rw [e] at h; exact absurd h (by decide)
      exact cm_neg (has_no h47) (fun _ => has_no h47)
  unfold begB
  rw [hb, Bool.or_false, decide_eq_false (show ¬ 0 ≤ cmE s sc i by omega), Bool.or_false]
  cases sc
  · unfold refW at h
    simp only [Bool.false_eq_true, if_false, Bool.and_eq_true, Bool.not_eq_true'] at h
    have h1 := h.1
    unfold mk2B at h1
    simp only [decide_eq_false_iff_not, List.mem_cons, List.not_mem_nil, or_false, not_or] at h1
    unfold markB mkB blkB
    simp only [Bool.false_eq_true, if_false, Bool.or_eq_false_iff, decide_eq_false_iff_not, List.mem_cons, List.not_mem_nil, or_false, not_or]
    omega
  · unfold refW at h
    rw [if_pos rfl] at h
    unfold markB
    rw [if_pos rfl, h]
    unfold wordB at h
    unfold blkB
    simp only [Bool.or_eq_true, Bool.and_eq_true, decide_eq_true_eq] at h
    simp only [Bool.not_true, Bool.or_false, Bool.or_eq_false_iff, decide_eq_false_iff_not]
    omega
theorem refW_no {s : ByteArray} {sc : Bool} {i : Nat} (hi : i < s.size) (h : refW s sc i = false) : begB cmE s sc i = true := by
  unfold begB
  cases sc
  · unfold refW at h
    simp only [Bool.false_eq_true, if_false] at h
    cases hp : hasP s i 47 42
    · rw [hp] at h
      have h1 : mk2B (at_ s i) = true := by simpa using h
      unfold mk2B at h1
      simp only [decide_eq_true_eq, List.mem_cons, List.not_mem_nil, or_false] at h1
      unfold markB mkB blkB
      simp only [Bool.false_eq_true, if_false, Bool.or_eq_true, decide_eq_true_eq, List.mem_cons, List.not_mem_nil, or_false]
      omega
    · have := cm_pos (sc := false) hi hp
      simp [this]
  · unfold refW at h
    rw [if_pos rfl] at h
    unfold markB
    rw [if_pos rfl, h]
    simp
theorem blk_good {c : Nat} (h : blkB c = true) : badB c = false := by
  unfold blkB at h
  unfold badB
  simp only [Bool.or_eq_true, decide_eq_true_eq] at h
  simp only [Bool.or_eq_false_iff, Bool.and_eq_false_iff, decide_eq_false_iff_not, Bool.not_eq_false', decide_eq_true_eq]
  omega
/-- A bad byte is neither a blank nor a quote, and begins no comment. -/
theorem bad_is {s : ByteArray} {sc : Bool} {i : Nat} (h : badB (at_ s i) = true) : blkB (at_ s i) = false ∧ ¬ (at_ s i = 34 ∨ at_ s i = 39) ∧ cmE s sc i < 0 := by
  unfold badB at h
  simp only [Bool.or_eq_true, Bool.and_eq_true, decide_eq_true_eq, Bool.not_eq_true', decide_eq_false_iff_not] at h
  refine ⟨?_, by omega, cm_neg (has_no (by omega)) (fun _ => has_no (by omega))⟩
  unfold blkB
  simp only [Bool.or_eq_false_iff, decide_eq_false_iff_not]
  omega
section
variable (E : Env)
set_option maxRecDepth 100000
theorem isWord7_sp (s : ByteArray) (sc : Bool) (i : Nat) (hi : i < s.size) : Sp (cx Try.prog mixed tyT_ok E) 28 [dS s, i64 i, dB sc] (dB (refW s sc i)) := by
  have e0 : ((bAt s ((i : Int)).toNat).toNat : Int) = at_ s i := rfl
  cases sc
  · have h2 : Sp (cx Try.prog mixed tyT_ok E) 46 [dS ⟨#[123, 125, 40, 41, 91, 93, 59, 58, 44, 62, 34, 39, 32, 9, 10]⟩, .v (.int .u8 ((bAt s ((i : Int)).toNat).toNat : Int))] (i64 (Lib.indexByte [123, 125, 40, 41, 91, 93, 59, 58, 44, 62, 34, 39, 32, 9, 10] (bAt s i))) := idxB_sp E ⟨#[123, 125, 40, 41, 91, 93, 59, 58, 44, 62, 34, 39, 32, 9, 10]⟩ (bAt s i)
    have h3 := mk2_c (bAt s i)
    have h4 : Sp (cx Try.prog mixed tyT_ok E) 44 [dS (s.extract ((i : Int)).toNat ((s.size : Int)).toNat), dS ⟨#[47, 42]⟩] (dB (hasP s i 47 42)) := pre2_sp E s i (by omega) 47 42
    unfold refW
    simp only [Bool.false_eq_true, if_false]
    change _ = !(mk2B (at_ s i)) at h3
    rw [← h3]
    generalize Lib.indexByte [123, 125, 40, 41, 91, 93, 59, 58, 44, 62, 34, 39, 32, 9, 10] (bAt s i) = y at *
    generalize hasP s i 47 42 = p at *
    refine Sp.body Try.func28 (by kernel_rfl) rfl (by kernel_rfl) (by kernel_rfl) (by kernel_rfl) ?_
    repeat' first
      | (refine facW_intro ?_; intro _)
      | refine Or.inl ?_
      | ((conv => whnf); first | (refine condW_dec ?_ ?_ <;> intro _ <;> try (exfalso; omega)) | refine condW_not ?_ | (refine condW_bool ?_ ?_ <;> intro _ <;> try (exfalso; omega)) | (refine nbC_t (fun _ => ?_) ?_) | (refine nbC_f ?_ (fun _ => ?_)))
      | refine And.intro (by first | omega | (simp only [Int.toNat_natCast] at *; omega) | (simp only [Nat.reduceAdd, Int.cast_ofNat_Int, true_and, and_true]; omega) | kernel_rfl) ?_
      | refine RegW.run ?_
      | refine ⟨_, h2, ?_⟩
      | refine ⟨_, h4, ?_⟩
      | fail
    all_goals first
      | (exfalso; rename_i h; exact h rfl)
      | exact Dle.bo (by first | (simp_all; done) | (simp_all; omega))
      | trace_state
  · unfold refW
    rw [if_pos rfl]
    unfold wordB
    refine Sp.body Try.func28 (by kernel_rfl) rfl (by kernel_rfl) (by kernel_rfl) (by kernel_rfl) ?_
    repeat' first
      | (refine facW_intro ?_; intro _)
      | refine Or.inl ?_
      | ((conv => whnf); first | (refine condW_dec ?_ ?_ <;> intro _ <;> try (exfalso; omega)) | refine condW_not ?_ | (refine condW_bool ?_ ?_ <;> intro _ <;> try (exfalso; omega)) | (refine nbC_t (fun _ => ?_) ?_) | (refine nbC_f ?_ (fun _ => ?_)))
      | refine And.intro (by first | omega | (simp only [Int.toNat_natCast] at *; omega) | (simp only [Nat.reduceAdd, Int.cast_ofNat_Int, true_and, and_true]; omega) | kernel_rfl) ?_
      | refine RegW.run ?_
      | fail
    all_goals simp only [e0] at *
    all_goals first
      | (exfalso; rename_i h; exact h rfl)
      | exact Dle.bo (by first | grind | (simp_all; omega))
      | trace_state
theorem fault7_a (z a e : Int) (h1 : 0 ≤ z) (h2 : z < a) : Sp (cx Try.prog mixed tyT_ok E) 26 [i64 z, i64 a, i64 e] (.tup [.v (.slice none 0 0), i64 z, i64 9]) := by
  refine Sp.body Try.func26 (by kernel_rfl) rfl (by kernel_rfl) (by kernel_rfl) (by kernel_rfl) ?_
  repeat' first
    | (refine facW_intro ?_; intro _)
    | refine Or.inl ?_
    | ((conv => whnf); first | (refine condW_dec ?_ ?_ <;> intro _ <;> try (exfalso; omega)) | refine condW_not ?_ | (refine condW_bool ?_ ?_ <;> intro _ <;> try (exfalso; omega)) | (refine nbC_t (fun _ => ?_) ?_) | (refine nbC_f ?_ (fun _ => ?_)))
    | refine And.intro (by first | omega | (simp only [Int.toNat_natCast] at *; omega) | (simp only [Nat.reduceAdd, Int.cast_ofNat_Int, true_and, and_true]; omega) | kernel_rfl) ?_
    | refine RegW.run ?_
    | fail
  all_goals first
    | (exfalso; rename_i h; exact h rfl)
    | (exfalso; omega)
    | exact Dle.refl _ _
    | trace_state
theorem fault7_b (z a e : Int) (h1 : ¬ (0 ≤ z ∧ z < a)) : Sp (cx Try.prog mixed tyT_ok E) 26 [i64 z, i64 a, i64 e] (.tup [.v (.slice none 0 0), i64 a, i64 e]) := by
  refine Sp.body Try.func26 (by kernel_rfl) rfl (by kernel_rfl) (by kernel_rfl) (by kernel_rfl) ?_
  repeat' first
    | (refine facW_intro ?_; intro _)
    | refine Or.inl ?_
    | ((conv => whnf); first | (refine condW_dec ?_ ?_ <;> intro _ <;> try (exfalso; omega)) | refine condW_not ?_ | (refine condW_bool ?_ ?_ <;> intro _ <;> try (exfalso; omega)) | (refine nbC_t (fun _ => ?_) ?_) | (refine nbC_f ?_ (fun _ => ?_)))
    | refine And.intro (by first | omega | (simp only [Int.toNat_natCast] at *; omega) | (simp only [Nat.reduceAdd, Int.cast_ofNat_Int, true_and, and_true]; omega) | kernel_rfl) ?_
    | refine RegW.run ?_
    | fail
  all_goals first
    | (exfalso; rename_i h; exact h rfl)
    | (exfalso; omega)
    | exact Dle.refl _ _
    | trace_state
theorem idxFunc_sp (s : ByteArray) : Sp (cx Try.prog mixed tyT_ok E) 42 [dS s, .fn 43 []] (i64 (chk s 0 s.size)) := by
  refine .inl ⟨⟨_, _, Try.func42, by kernel_rfl, rfl⟩, fun M β w vs hG hMG hM hl hr hp hb => ?_⟩
  have h0 := (hr 0 _ rfl).val.1
  have h1 : vs.getD 1 undef = .func (.func 43) #[] #[] := by
    have := hr 1 _ rfl
    generalize vs.getD 1 undef = x at this
    cases this with
    | fn hn h =>
      rename_i us
      have e1 : us = #[] := Array.eq_empty_of_size_eq_zero hn
      rw [e1]
  have e : vs = #[.string s, .func (.func 43) #[] #[]] := by
    apply Array.ext
    · simpa using hl
    · intro i g1 g2
      have g3 : i = 0 ∨ i = 1 := by simp at g2; omega
      rcases g3 with rfl | rfl
      · simpa [Array.getD, g1] using h0
      · simpa [Array.getD, g1] using h1
  rw [e]
  refine (Try.strings_IndexFunc 43 #[] (enters_of Try.func43 (by kernel_rfl) rfl) badB s w (refused1 w)).mono fun e' w' ⟨he, hbw⟩ => ?_
  rw [idx_all] at he
  exact ⟨_, M, β, he, Kp.of hbw _, fun _ _ _ => rfl, fun _ _ h => h, fun _ _ h => .inl h, .v rfl, ⟨fun l o hm => (by cases hm), fun l o l' o' b c c' hm => (by cases hm)⟩, fun b ⟨l, o, c, hm, _⟩ => (by cases hm)⟩
theorem refused_sp (s : ByteArray) : Sp (cx Try.prog mixed tyT_ok E) 24 [dS s] (i64 (chk s 0 s.size)) := by
  have h1 := idxFunc_sp E s
  generalize chk s 0 s.size = z at *
  refine Sp.body Try.func24 (by kernel_rfl) rfl (by kernel_rfl) (by kernel_rfl) (by kernel_rfl) ?_
  repeat' first
    | (refine facW_intro ?_; intro _)
    | refine Or.inl ?_
    | ((conv => whnf); first | (refine condW_dec ?_ ?_ <;> intro _ <;> try (exfalso; omega)) | refine condW_not ?_ | (refine condW_bool ?_ ?_ <;> intro _ <;> try (exfalso; omega)) | (refine nbC_t (fun _ => ?_) ?_) | (refine nbC_f ?_ (fun _ => ?_)))
    | refine And.intro (by first | omega | (simp only [Int.toNat_natCast] at *; omega) | (simp only [Nat.reduceAdd, Int.cast_ofNat_Int, true_and, and_true]; omega) | kernel_rfl) ?_
    | refine RegW.run ?_
    | refine ⟨_, h1, ?_⟩
    | fail
  all_goals first
    | exact Dle.refl _ _
    | trace_state
end
end tk
end Go.Proofs.Ytiiohopjkepkgaa
namespace Go.Proofs.Ytiiohopjkepkgaa
open Go.RowKit
set_option linter.unusedVariables false
set_option linter.unusedSimpArgs false
namespace tk
/-- What a run of blanks comes to. -/
def blTo (s : ByteArray) (sc : Bool) (b : Nat) (out : List Tk) (q : R3) : Tks := if q.e ≠ 0 then ⟨[], q.at', q.e⟩ else if b < q.i.toNat then dv cmE s sc q.i.toNat (out ++ [tkOf s 4 b q.i.toNat]) else ⟨[], 0, 0⟩
theorem dv_blank {s : ByteArray} {sc : Bool} {i : Nat} {out : List Tk} (h : i < s.size) (h0 : badB (at_ s i) = false) (hb : blkB (at_ s i) = true ∨ 0 ≤ cmE s sc i) : dv cmE s sc i out = blTo s sc i out (bl cmE s sc i) := by
  have hn := nx_blank (c := cmE) (sc := sc) h0 hb
  unfold blTo
  by_cases he : (bl cmE s sc i).e ≠ 0
  · rw [if_pos he] at hn ⊢
    exact dv_no h hn
  · rw [if_neg he] at hn ⊢
    rw [dv, if_pos h, hn]
theorem blTo_err {s : ByteArray} {sc : Bool} {b : Nat} {out : List Tk} {a e : Int} (h : e ≠ 0) : blTo s sc b out ⟨0, a, e⟩ = ⟨[], a, e⟩ := by unfold blTo; rw [if_pos h]
theorem blTo_ok {s : ByteArray} {sc : Bool} {b j : Nat} {out : List Tk} (h : b < j) : blTo s sc b out ⟨j, 0, 0⟩ = dv cmE s sc j (out ++ [tkOf s 4 b j]) := by
  unfold blTo
  rw [if_neg (by simp)]
  exact if_pos h
/-- No byte from a to b is bad. -/
def okR (s : ByteArray) (a b : Nat) : Prop := ∀ m, a ≤ m → m < b → badB (at_ s m) = false
theorem okR_nil {s : ByteArray} {a : Nat} : okR s a a := fun m h1 h2 => by omega
theorem okR_one {s : ByteArray} {a b : Nat} (h : okR s a b) (hb : badB (at_ s b) = false) : okR s a (b + 1) := fun m h1 h2 => by
  by_cases e : m = b
  · exact e ▸ hb
  · exact h m h1 (by omega)
theorem okR_app {s : ByteArray} {a b c : Nat} (h : okR s a b) (g : okR s b c) : okR s a c := fun m h1 h2 => by
  rcases Nat.lt_or_ge m b with h3 | h3
  · exact h m h1 h3
  · exact g m h3 h2
/-- The first bad byte, behind good ones. -/
theorem okR_z {s : ByteArray} {a b : Nat} {z : Int} (hab : a ≤ b) (hb : b ≤ s.size) (h : okR s a b) (hz : z = chk s a s.size) : z = chk s b s.size ∧ (z < 0 ∨ (b : Int) ≤ z) := by
  have h1 := hz.trans (chk_skip (e := s.size) hab h hb)
  refine ⟨h1, ?_⟩
  rcases chk_or s b s.size with ⟨h3, _⟩ | ⟨m, h3, h4, _⟩
  · left; omega
  · right; omega
theorem chk_okR {s : ByteArray} {a b : Nat} (h : chk s a b < 0) : okR s a b := by
  rcases chk_or s a b with ⟨_, h4⟩ | ⟨m, h3, _⟩
  · exact h4
  · omega
/-- How the runs of blanks stand: as the program sees them, or behind a bad byte. -/
def BlI (s : ByteArray) (sc : Bool) (b : Nat) (out : List Tk) (z : Int) (r : Tks) (j : Nat) : Prop :=
  (okR s b j ∧ r = blTo s sc b out (bl cmE s sc j)) ∨ (0 ≤ z ∧ z < j ∧ r = ⟨[], z, 9⟩)
/-- .. words. -/
def WdI (s : ByteArray) (sc : Bool) (b : Nat) (out : List Tk) (z : Int) (r : Tks) (j : Nat) : Prop :=
  (okR s b j ∧ (b < j → r = dv cmE s sc (we cmE s sc j) (out ++ [tkOf s 1 b (we cmE s sc j)]))) ∨ (0 ≤ z ∧ z < j ∧ r = ⟨[], z, 9⟩)
section
variable {s : ByteArray} {sc : Bool} {b : Nat} {out : List Tk} {z : Int} {r : Tks} {j : Nat}
theorem BlI.blank (h : BlI s sc b out z r j) (hj : j < s.size) (hb : blkB (at_ s j) = true) : BlI s sc b out z r (j + 1) := by
  rcases h with ⟨h1, h2⟩ | ⟨h1, h2, h3⟩
  · exact .inl ⟨okR_one h1 (blk_good hb), by rw [h2, bl_blk hj hb]⟩
  · exact .inr ⟨h1, by omega, h3⟩
/-- At a comment without an end. -/
theorem BlI.open_ (h : BlI s sc b out z r j) (hbj : b ≤ j) (hj : j < s.size) (hz : z = chk s b s.size) (hb : blkB (at_ s j) = false) (hc : (s.size : Int) < cmE s sc j) : (0 ≤ z ∧ z < j ∧ r = ⟨[], z, 9⟩) ∨ (¬ (0 ≤ z ∧ z < j) ∧ r = ⟨[], j, 8⟩) := by
  rcases h with ⟨h1, h2⟩ | h
  · have := (okR_z hbj (by omega) h1 hz).2
    exact .inr ⟨by omega, by rw [h2, bl_open hj hb hc, blTo_err (by decide)]⟩
  · exact .inl h
theorem BlI.comment (h : BlI s sc b out z r j) (hbj : b ≤ j) (hj : j < s.size) (hz : z = chk s b s.size) (hb : blkB (at_ s j) = false) {n : Nat} (hc : cmE s sc j = n) (hn : n ≤ s.size) (hjn : j < n) : BlI s sc b out z r n := by
  rcases h with ⟨h1, h2⟩ | ⟨h1, h2, h3⟩
  · by_cases hk : 0 ≤ chk s j n
    · have g := okR_z hbj (by omega) h1 hz
      have hp := chk_part (s := s) (i := j) hn
      rw [← g.1] at hp
      split at hp
      · rename_i hlt
        refine .inr ⟨by omega, hlt, ?_⟩
        rw [h2, bl_bad hj hb (by omega) (by omega) (by rw [hc]; exact hk), blTo_err (by decide), hc]
        show (⟨[], chk s j n, 9⟩ : Tks) = _
        rw [hp]
      · omega
    · refine .inl ⟨okR_app h1 (chk_okR (by omega)), ?_⟩
      rw [h2, bl_go hj hb (by omega) (by omega) (by rw [hc]; show chk s j n < 0; omega) (by rw [hc]; exact hjn), hc]
      rfl
  · exact .inr ⟨h1, by omega, h3⟩
/-- Behind the run. -/
theorem BlI.done (h : BlI s sc b out z r j) (hbj : b < j) (hj : j ≤ s.size) (hz : z = chk s b s.size) (hend : j < s.size → blkB (at_ s j) = false ∧ cmE s sc j < 0) : (0 ≤ z ∧ z < j ∧ r = ⟨[], z, 9⟩) ∨ (¬ (0 ≤ z ∧ z < j) ∧ z = chk s j s.size ∧ r = dv cmE s sc j (out ++ [tkOf s 4 b j])) := by
  rcases h with ⟨h1, h2⟩ | h
  · have g := okR_z (by omega) hj h1 hz
    refine .inr ⟨by omega, g.1, ?_⟩
    by_cases hl : j < s.size
    · rw [h2, bl_no hl (hend hl).1 (hend hl).2, blTo_ok hbj]
    · rw [h2, bl_end hl, blTo_ok hbj]
  · exact .inl h
theorem WdI.step (h : WdI s sc b out z r j) (hbj : b ≤ j) (hj : j < s.size) (hz : z = chk s b s.size) (hw : refW s sc j = true) (hbad : badB (at_ s b) = true → r = ⟨[], b, 9⟩) (h0 : badB (at_ s b) = false → r = dv cmE s sc (we cmE s sc (b + 1)) (out ++ [tkOf s 1 b (we cmE s sc (b + 1))])) : WdI s sc b out z r (j + 1) := by
  rcases h with ⟨h1, h2⟩ | ⟨h1, h2, h3⟩
  · cases hb : badB (at_ s j)
    · refine .inl ⟨okR_one h1 hb, fun _ => ?_⟩
      by_cases e : b = j
      · subst e; exact h0 hb
      · have := h2 (by omega)
        rw [we_go hj (refW_beg hw hb)] at this
        exact this
    · have g := okR_z hbj (by omega) h1 hz
      have ez : z = j := g.1.trans (chk_bad hj hb)
      refine .inr ⟨by omega, by omega, ?_⟩
      by_cases e : b = j
      · subst e; rw [hbad hb, ez]
      · have hbeg : begB cmE s sc j = true := by unfold begB; simp [hb]
        rw [h2 (by omega), we_stop hj hbeg, dv_no hj (nx_bad hb), ez]
  · exact .inr ⟨h1, by omega, h3⟩
theorem WdI.done (h : WdI s sc b out z r j) (hbj : b < j) (hj : j ≤ s.size) (hz : z = chk s b s.size) (hend : j < s.size → refW s sc j = false) : (0 ≤ z ∧ z < j ∧ r = ⟨[], z, 9⟩) ∨ (¬ (0 ≤ z ∧ z < j) ∧ z = chk s j s.size ∧ r = dv cmE s sc j (out ++ [tkOf s 1 b j])) := by
  rcases h with ⟨h1, h2⟩ | h
  · have g := okR_z (by omega) hj h1 hz
    refine .inr ⟨by omega, g.1, ?_⟩
    have e : we cmE s sc j = j := by
      by_cases hl : j < s.size
      · exact we_stop hl (refW_no hl (hend hl))
      · exact we_end hl
    have := h2 hbj
    rwa [e] at this
  · exact .inl h
end
end tk
end Go.Proofs.Ytiiohopjkepkgaa
