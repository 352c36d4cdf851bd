/-
  Links of a style: the plain law.
-/
import Derived.Test.YtiiohopjkepkgaaTk8
namespace Go.Proofs.Ytiiohopjkepkgaa
open Go.RowKit
set_option linter.unusedVariables false
set_option linter.unusedSimpArgs false
namespace tk
structure Lk where
  f : Int
  e : Int
  p : ByteArray
def Lk.zero : Lk := ⟨0, 0, ⟨#[]⟩⟩
def amB (t : Tk) (m : ByteArray) : Bool := decide (t.k = 3) && (decide ((t.t.size : Int) = 1) && Lib.contains m.data.toList t.t.data.toList)
def urlB : ByteArray := ⟨#[117, 114, 108]⟩
/-- A link's path stands at a place. -/
def lkC (l : List Tk) (m : Nat) : Bool := decide (2 ≤ m ∧ m + 1 < l.length) && (decide ((l.getD (m - 2) .zero).k = 1) && (decide ((l.getD (m - 2) .zero).t = urlB) && (amB (l.getD (m - 1) .zero) ⟨#[40]⟩ && (decide ((l.getD m .zero).k = 2) && amB (l.getD (m + 1) .zero) ⟨#[41]⟩))))
def lkM (t : Tk) : Lk := ⟨t.f + 1, t.e - 1, t.t.extract 1 (t.t.size - 1)⟩
/-- The links ahead of a place. -/
def lkP (l : List Tk) : Nat → List Lk
  | 0 => []
  | m + 1 => if lkC l m then lkP l m ++ [lkM (l.getD m .zero)] else lkP l m
theorem lkP_yes {l : List Tk} {m : Nat} (h : lkC l m = true) : lkP l (m + 1) = lkP l m ++ [lkM (l.getD m .zero)] := by rw [lkP, if_pos h]
theorem lkP_no {l : List Tk} {m : Nat} (h : lkC l m = false) : lkP l (m + 1) = lkP l m := by rw [lkP, if_neg (by rw [h]; decide)]
theorem lkP_two (l : List Tk) : lkP l 2 = [] := by
  have h0 : lkC l 0 = false := by unfold lkC; rw [decide_eq_false (by omega)]; rfl
  have h1 : lkC l 1 = false := by unfold lkC; rw [decide_eq_false (by omega)]; rfl
  rw [lkP_no h1, lkP_no h0]; rfl
theorem lkP_end {l : List Tk} {m : Nat} (h : l.length ≤ m + 1) : ∀ n, lkP l (m + n) = lkP l m
  | 0 => rfl
  | n + 1 => by
    have : lkC l (m + n) = false := by unfold lkC; rw [decide_eq_false (by omega)]; rfl
    show lkP l (m + n + 1) = _
    rw [lkP_no this, lkP_end h n]
theorem lkP_all {l : List Tk} {m : Nat} (h : l.length ≤ m + 1) : lkP l m = lkP l l.length := by
  rcases Nat.le_total m l.length with h1 | h1
  · obtain ⟨n, hn⟩ := Nat.le.dest h1
    rw [← hn] at *
    exact (lkP_end h n).symm
  · obtain ⟨n, hn⟩ := Nat.le.dest h1
    rw [← hn]
    exact lkP_end (by omega) n
theorem lkP_len (l : List Tk) : ∀ m, (lkP l m).length ≤ m
  | 0 => Nat.le_refl _
  | m + 1 => by
    have := lkP_len l m
    rw [lkP]
    split
    · rw [List.length_append]; show _ + 1 ≤ _; omega
    · omega
/-! ## Tokens fit -/
def TkOk (s : ByteArray) (sc : Bool) (t : Tk) : Prop := ∃ f e : Nat, t.f = f ∧ t.e = e ∧ f < e ∧ e ≤ s.size ∧ (t.k ≠ 4 → t.t.size = e - f) ∧ (t.k = 2 → f + 2 ≤ e) ∧ (t.k = 4 → bl cmE s sc f = ⟨e, 0, 0⟩)
/-- Where the token at a place begins. -/
def endp (l : List Tk) (k : Nat) : Int := if k = 0 then 0 else (l.getD (k - 1) .zero).e
def AllOk (s : ByteArray) (sc : Bool) (l : List Tk) : Prop := ∀ k, k < l.length → TkOk s sc (l.getD k .zero) ∧ (l.getD k .zero).f = endp l k
theorem nx_ok {s : ByteArray} {sc : Bool} {i e : Nat} {k : Int} (hi : i < s.size) (h : nx cmE s sc i = .ok k e) : i < e ∧ e ≤ s.size ∧ (k = 2 → i + 2 ≤ e) ∧ (k = 4 → bl cmE s sc i = ⟨e, 0, 0⟩) := by
  cases hb : badB (at_ s i)
  · by_cases hbl : blkB (at_ s i) = true ∨ 0 ≤ cmE s sc i
    · rw [nx_blank hb hbl] at h
      rcases bl_or (cmE_ok s sc) (Nat.le_of_lt hi) with ⟨e0, a0, m, hm, hm1, hm2, hm3⟩ | ⟨e1, i1⟩
      · rw [if_neg (by rw [e0]; decide), hm] at h
        injection h with h1 h2
        have h2 : m = e := h2
        subst h1 h2
        refine ⟨hm3 ⟨hi, hbl⟩, hm2, fun h => by omega, fun _ => ?_⟩
        generalize bl cmE s sc i = q at *
        cases q
        simp only at hm a0 e0
        rw [hm, a0, e0]
      · rw [if_pos e1] at h; cases h
    · have hk0 : blkB (at_ s i) = false := by cases h : blkB (at_ s i); rfl; exact absurd (.inl h) hbl
      have hy : cmE s sc i < 0 := by
        rcases Int.lt_or_le (cmE s sc i) 0 with h | h
        · exact h
        · exact absurd (.inr h) hbl
      by_cases hq : at_ s i = 34 ∨ at_ s i = 39
      · rw [nx_str hb hk0 hy hq] at h
        rcases txt_or s (at_ s i) (i + 1) with ht | ⟨m, ht, hm1, hm2⟩
        · rw [ht, if_pos (by decide)] at h; cases h
        · rw [ht, if_neg (by omega)] at h
          split at h
          · cases h
          · injection h with h1 h2
            have h2 : m = e := h2
            subst h1 h2
            exact ⟨by omega, hm2, fun _ => by omega, fun h => by omega⟩
      · cases hmk : markB sc (at_ s i)
        · rw [nx_word hb hk0 hy hq hmk] at h
          have hw := we_or (c := cmE) (s := s) (sc := sc) (i := i + 1) (by omega)
          injection h with h1 h2
          subst h1 h2
          exact ⟨by omega, by omega, fun h => by omega, fun h => by omega⟩
        · rw [nx_mark hb hk0 hy hq hmk] at h
          injection h with h1 h2
          subst h1 h2
          exact ⟨by omega, by omega, fun h => by omega, fun h => by omega⟩
  · rw [nx_bad hb] at h; cases h
theorem allOk_nil (s : ByteArray) (sc : Bool) : AllOk s sc [] := fun k hk => by simp at hk
theorem getD_app {l : List Tk} {t : Tk} {k : Nat} : (k < l.length → (l ++ [t]).getD k .zero = l.getD k .zero) ∧ (l ++ [t]).getD l.length .zero = t := by
  refine ⟨fun h => ?_, by simp [List.getD]⟩
  simp only [List.getD]
  rw [List.getElem?_append_left h]
theorem dv_ok2 {s : ByteArray} {sc : Bool} : ∀ (n i : Nat) (out : List Tk), s.size - i < n → i ≤ s.size → AllOk s sc out → endp out out.length = i → AllOk s sc (dv cmE s sc i out).l
  | 0, _, _, h, _, _, _ => by omega
  | n + 1, i, out, h, hi, ho, he => by
    by_cases hlt : i < s.size
    · cases hn : nx cmE s sc i with
      | no a e =>
        rw [dv_no hlt hn]
        exact allOk_nil s sc
      | ok k e =>
        obtain ⟨h1, h2, h3, h4⟩ := nx_ok hlt hn
        rw [dv_ok hlt hn h1]
        refine dv_ok2 n e _ (by omega) h2 (fun j hj => ?_) ?_
        · rw [List.length_append] at hj
          have hj : j < out.length + 1 := hj
          by_cases hjl : j < out.length
          · obtain ⟨g1, g2⟩ := ho j hjl
            rw [getD_app.1 hjl]
            refine ⟨g1, g2.trans ?_⟩
            unfold endp
            by_cases h0 : j = 0
            · rw [if_pos h0, if_pos h0]
            · rw [if_neg h0, if_neg h0, getD_app.1 (by omega)]
          · obtain rfl : j = out.length := by omega
            rw [(getD_app (k := 0)).2]
            refine ⟨⟨i, e, rfl, rfl, h1, h2, fun hk => ?_, h3, h4⟩, ?_⟩
            · show (if k = 4 then _ else _ : ByteArray).size = _
              rw [if_neg (show ¬ k = 4 from hk), ByteArray.size_extract]
              omega
            · show (i : Int) = _
              rw [← he]
              unfold endp
              by_cases h0 : out.length = 0
              · rw [if_pos h0, if_pos h0]
              · rw [if_neg h0, if_neg h0, getD_app.1 (by omega)]
        · rw [List.length_append]
          show endp _ (out.length + 1) = _
          unfold endp
          rw [if_neg (by omega), Nat.add_sub_cancel, (getD_app (k := 0)).2]
          rfl
    · rw [dv_end hlt]; exact ho
theorem toks_ok (s : ByteArray) (sc : Bool) : AllOk s sc (toksE s sc).l := by
  unfold toksE
  split
  · exact allOk_nil s sc
  · exact dv_ok2 (s.size + 1) 0 [] (by omega) (by omega) (allOk_nil s sc) rfl
theorem toks_small {s : ByteArray} {sc : Bool} {k : Nat} (h : k < (toksE s sc).l.length) : s.size ≤ 20000 := by
  unfold toksE at h
  split at h
  · simp at h
  · omega
end tk
end Go.Proofs.Ytiiohopjkepkgaa
