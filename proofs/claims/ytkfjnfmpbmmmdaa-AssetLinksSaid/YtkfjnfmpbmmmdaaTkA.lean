/-
  Tokens: mastref2.TokensOf.
-/
import Derived.Test.YtkfjnfmpbmmmdaaTk9
namespace Go.Proofs.Ytkfjnfmpbmmmdaa
open Go.RowKit
set_option linter.unusedVariables false
set_option linter.unusedSimpArgs false
namespace tk
/-- What a run of blanks comes to. -/
def blTo (s : ByteArray) (sc : Bool) (b : Nat) (out : List Tk) (q : R3) : Tks := if q.e ≠ 0 then ⟨[], q.at', q.e⟩ else if b < q.i.toNat then dv cmE s sc q.i.toNat (out ++ [tkOf s 4 b q.i.toNat]) else ⟨[], 0, 0⟩
theorem dv_blank {s : ByteArray} {sc : Bool} {i : Nat} {out : List Tk} (h : i < s.size) (h0 : badB (at_ s i) = false) (hb : blkB (at_ s i) = true ∨ 0 ≤ cmE s sc i) : dv cmE s sc i out = blTo s sc i out (bl cmE s sc i) := by
  have hn := nx_blank (c := cmE) (sc := sc) h0 hb
  unfold blTo
  by_cases he : (bl cmE s sc i).e ≠ 0
  · rw [if_pos he] at hn ⊢
    exact dv_no h hn
  · rw [if_neg he] at hn ⊢
    rw [dv, if_pos h, hn]
theorem blTo_err {s : ByteArray} {sc : Bool} {b : Nat} {out : List Tk} {a e : Int} (h : e ≠ 0) : blTo s sc b out ⟨0, a, e⟩ = ⟨[], a, e⟩ := by unfold blTo; rw [if_pos h]
theorem blTo_ok {s : ByteArray} {sc : Bool} {b j : Nat} {out : List Tk} (h : b < j) : blTo s sc b out ⟨j, 0, 0⟩ = dv cmE s sc j (out ++ [tkOf s 4 b j]) := by
  unfold blTo
  rw [if_neg (by simp)]
  exact if_pos h
/-- No byte from a to b is bad. -/
def okR (s : ByteArray) (a b : Nat) : Prop := ∀ m, a ≤ m → m < b → badB (at_ s m) = false
theorem okR_nil {s : ByteArray} {a : Nat} : okR s a a := fun m h1 h2 => by omega
theorem okR_one {s : ByteArray} {a b : Nat} (h : okR s a b) (hb : badB (at_ s b) = false) : okR s a (b + 1) := fun m h1 h2 => by
  by_cases e : m = b
  · exact e ▸ hb
  · exact h m h1 (by omega)
theorem okR_app {s : ByteArray} {a b c : Nat} (h : okR s a b) (g : okR s b c) : okR s a c := fun m h1 h2 => by
  rcases Nat.lt_or_ge m b with h3 | h3
  · exact h m h1 h3
  · exact g m h3 h2
/-- The first bad byte, behind good ones. -/
theorem okR_z {s : ByteArray} {a b : Nat} {z : Int} (hab : a ≤ b) (hb : b ≤ s.size) (h : okR s a b) (hz : z = chk s a s.size) : z = chk s b s.size ∧ (z < 0 ∨ (b : Int) ≤ z) := by
  have h1 := hz.trans (chk_skip (e := s.size) hab h hb)
  refine ⟨h1, ?_⟩
  rcases chk_or s b s.size with ⟨h3, _⟩ | ⟨m, h3, h4, _⟩
  · left; omega
  · right; omega
theorem chk_okR {s : ByteArray} {a b : Nat} (h : chk s a b < 0) : okR s a b := by
  rcases chk_or s a b with ⟨_, h4⟩ | ⟨m, h3, _⟩
  · exact h4
  · omega
/-- How the runs of blanks stand: as the program sees them, or behind a bad byte. -/
def BlI (s : ByteArray) (sc : Bool) (b : Nat) (out : List Tk) (z : Int) (r : Tks) (j : Nat) : Prop :=
  (okR s b j ∧ r = blTo s sc b out (bl cmE s sc j)) ∨ (0 ≤ z ∧ z < j ∧ r = ⟨[], z, 9⟩)
/-- .. words. -/
def WdI (s : ByteArray) (sc : Bool) (b : Nat) (out : List Tk) (z : Int) (r : Tks) (j : Nat) : Prop :=
  (okR s b j ∧ (b < j → r = dv cmE s sc (we cmE s sc j) (out ++ [tkOf s 1 b (we cmE s sc j)]))) ∨ (0 ≤ z ∧ z < j ∧ r = ⟨[], z, 9⟩)
section
variable {s : ByteArray} {sc : Bool} {b : Nat} {out : List Tk} {z : Int} {r : Tks} {j : Nat}
theorem BlI.blank (h : BlI s sc b out z r j) (hj : j < s.size) (hb : blkB (at_ s j) = true) : BlI s sc b out z r (j + 1) := by
  rcases h with ⟨h1, h2⟩ | ⟨h1, h2, h3⟩
  · exact .inl ⟨okR_one h1 (blk_good hb), by rw [h2, bl_blk hj hb]⟩
  · exact .inr ⟨h1, by omega, h3⟩
/-- At a comment without an end. -/
theorem BlI.open_ (h : BlI s sc b out z r j) (hbj : b ≤ j) (hj : j < s.size) (hz : z = chk s b s.size) (hb : blkB (at_ s j) = false) (hc : (s.size : Int) < cmE s sc j) : (0 ≤ z ∧ z < j ∧ r = ⟨[], z, 9⟩) ∨ (¬ (0 ≤ z ∧ z < j) ∧ r = ⟨[], j, 8⟩) := by
  rcases h with ⟨h1, h2⟩ | h
  · have := (okR_z hbj (by omega) h1 hz).2
    exact .inr ⟨by omega, by rw [h2, bl_open hj hb hc, blTo_err (by decide)]⟩
  · exact .inl h
theorem BlI.comment (h : BlI s sc b out z r j) (hbj : b ≤ j) (hj : j < s.size) (hz : z = chk s b s.size) (hb : blkB (at_ s j) = false) {n : Nat} (hc : cmE s sc j = n) (hn : n ≤ s.size) (hjn : j < n) : BlI s sc b out z r n := by
  rcases h with ⟨h1, h2⟩ | ⟨h1, h2, h3⟩
  · by_cases hk : 0 ≤ chk s j n
    · have g := okR_z hbj (by omega) h1 hz
      have hp := chk_part (s := s) (i := j) hn
      rw [← g.1] at hp
      split at hp
      · rename_i hlt
        refine .inr ⟨by omega, hlt, ?_⟩
        rw [h2, bl_bad hj hb (by omega) (by omega) (by rw [hc]; exact hk), blTo_err (by decide), hc]
        show (⟨[], chk s j n, 9⟩ : Tks) = _
        rw [hp]
      · omega
    · refine .inl ⟨okR_app h1 (chk_okR (by omega)), ?_⟩
      rw [h2, bl_go hj hb (by omega) (by omega) (by rw [hc]; show chk s j n < 0; omega) (by rw [hc]; exact hjn), hc]
      rfl
  · exact .inr ⟨h1, by omega, h3⟩
/-- Behind the run. -/
theorem BlI.done (h : BlI s sc b out z r j) (hbj : b < j) (hj : j ≤ s.size) (hz : z = chk s b s.size) (hend : j < s.size → blkB (at_ s j) = false ∧ cmE s sc j < 0) : (0 ≤ z ∧ z < j ∧ r = ⟨[], z, 9⟩) ∨ (¬ (0 ≤ z ∧ z < j) ∧ z = chk s j s.size ∧ r = dv cmE s sc j (out ++ [tkOf s 4 b j])) := by
  rcases h with ⟨h1, h2⟩ | h
  · have g := okR_z (by omega) hj h1 hz
    refine .inr ⟨by omega, g.1, ?_⟩
    by_cases hl : j < s.size
    · rw [h2, bl_no hl (hend hl).1 (hend hl).2, blTo_ok hbj]
    · rw [h2, bl_end hl, blTo_ok hbj]
  · exact .inl h
theorem WdI.step (h : WdI s sc b out z r j) (hbj : b ≤ j) (hj : j < s.size) (hz : z = chk s b s.size) (hw : refW s sc j = true) (hbad : badB (at_ s b) = true → r = ⟨[], b, 9⟩) (h0 : badB (at_ s b) = false → r = dv cmE s sc (we cmE s sc (b + 1)) (out ++ [tkOf s 1 b (we cmE s sc (b + 1))])) : WdI s sc b out z r (j + 1) := by
  rcases h with ⟨h1, h2⟩ | ⟨h1, h2, h3⟩
  · cases hb : badB (at_ s j)
    · refine .inl ⟨okR_one h1 hb, fun _ => ?_⟩
      by_cases e : b = j
      · subst e; exact h0 hb
      · have := h2 (by omega)
        rw [we_go hj (refW_beg hw hb)] at this
        exact this
    · have g := okR_z hbj (by omega) h1 hz
      have ez : z = j := g.1.trans (chk_bad hj hb)
      refine .inr ⟨by omega, by omega, ?_⟩
      by_cases e : b = j
      · subst e; rw [hbad hb, ez]
      · have hbeg : begB cmE s sc j = true := by unfold begB; simp [hb]
        rw [h2 (by omega), we_stop hj hbeg, dv_no hj (nx_bad hb), ez]
  · exact .inr ⟨h1, by omega, h3⟩
theorem WdI.done (h : WdI s sc b out z r j) (hbj : b < j) (hj : j ≤ s.size) (hz : z = chk s b s.size) (hend : j < s.size → refW s sc j = false) : (0 ≤ z ∧ z < j ∧ r = ⟨[], z, 9⟩) ∨ (¬ (0 ≤ z ∧ z < j) ∧ z = chk s j s.size ∧ r = dv cmE s sc j (out ++ [tkOf s 1 b j])) := by
  rcases h with ⟨h1, h2⟩ | h
  · have g := okR_z (by omega) hj h1 hz
    refine .inr ⟨by omega, g.1, ?_⟩
    have e : we cmE s sc j = j := by
      by_cases hl : j < s.size
      · exact we_stop hl (refW_no hl (hend hl))
      · exact we_end hl
    have := h2 hbj
    rwa [e] at this
  · exact .inl h
end
end tk
end Go.Proofs.Ytkfjnfmpbmmmdaa
