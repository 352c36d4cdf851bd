/-
  Tokens: asset.StyleTokens, asset.ScriptTokens.
-/
import Derived.Test.YtiiohopjkepkgaaTk7
namespace Go.Proofs.Ytiiohopjkepkgaa
open Go.RowKit
set_option linter.unusedVariables false
set_option linter.unusedSimpArgs false
namespace tk
def rowP (l : List Tk) (i j : Nat) : DD := match j with | 0 => i64 (l.getD i .zero).k | 1 => dS (l.getD i .zero).t | _ => .opq
def encPs (r : Tks) : DD := .tup [.sl 2 24 r.l.length (rowP r.l), i64 r.at', i64 r.e]
def toksE (s : ByteArray) (sc : Bool) : Tks := if 20000 < s.size then ⟨[], 0, 4⟩ else dv cmE s sc 0 []
section
variable (E : Env)
set_option maxRecDepth 100000
theorem dle_errP {a e : Int} {r : Tks} (h : r = ⟨[], a, e⟩) : Dle (cx Try.prog mixed tyT_ok E) (.tup [.v (.slice none 0 0), i64 a, i64 e]) (encPs r) := by
  subst h
  exact .tup ⟨Dle.nil, Dle.refl _ _, Dle.refl _ _, trivial⟩
theorem tokens_sp (hML : ∀ w, E.G w → ML w) (s : ByteArray) (sc : Bool) : Sp (cx Try.prog mixed tyT_ok E) 14 [dS s, dB sc] (encTs (toksE s sc)) := by
  obtain ⟨r, hr⟩ : ∃ r, r = toksE s sc := ⟨_, rfl⟩
  rw [← hr]
  unfold toksE at hr
  by_cases h : 20000 < s.size
  · rw [if_pos h] at hr
    refine Sp.body Try.func14 (by kernel_rfl) rfl (by kernel_rfl) (by kernel_rfl) (by kernel_rfl) ?_
    repeat' first
      | (refine facW_intro ?_; intro _)
      | refine Or.inl ?_
      | ((conv => whnf); first | (refine condW_dec ?_ ?_ <;> intro _ <;> try (exfalso; omega)) | refine condW_not ?_ | (refine condW_bool ?_ ?_ <;> intro _ <;> try (exfalso; omega)) | (refine nbC_t (fun _ => ?_) ?_) | (refine nbC_f ?_ (fun _ => ?_)))
      | refine And.intro (by first | omega | (simp only [Int.toNat_natCast] at *; omega) | (simp only [Nat.reduceAdd, Int.cast_ofNat_Int, true_and, and_true]; omega) | kernel_rfl) ?_
      | refine RegW.run ?_
      | fail
    all_goals first
      | exact dle_err E hr
      | trace_state
  · rw [if_neg h] at hr
    have h1 := divided_sp E hML s (by omega) sc
    rw [← hr] at h1
    unfold encTs at h1
    refine Sp.body Try.func14 (by kernel_rfl) rfl (by kernel_rfl) (by kernel_rfl) (by kernel_rfl) ?_
    repeat' first
      | (refine facW_intro ?_; intro _)
      | refine Or.inl ?_
      | ((conv => whnf); first | (refine condW_dec ?_ ?_ <;> intro _ <;> try (exfalso; omega)) | refine condW_not ?_ | (refine condW_bool ?_ ?_ <;> intro _ <;> try (exfalso; omega)) | (refine nbC_t (fun _ => ?_) ?_) | (refine nbC_f ?_ (fun _ => ?_)))
      | refine And.intro (by first | omega | (simp only [Int.toNat_natCast] at *; omega) | (simp only [Nat.reduceAdd, Int.cast_ofNat_Int, true_and, and_true]; omega) | kernel_rfl) ?_
      | refine RegW.run ?_
      | refine ⟨_, h1, ?_⟩
      | fail
    all_goals first
      | exact Dle.refl _ _
      | trace_state
theorem row_p (l : List Tk) (k : Nat) (i j : Nat) (hi : i < k + 1) (hj : j < 2) : Dle (cx Try.prog mixed tyT_ok E) (if i < k then rowP l i j else ([rowT l k 0, rowT l k 1] : List DD).getD ((i - k + 0) * 2 + j) .opq) (rowP l i j) := by
  rcases Nat.lt_or_ge i k with h | h
  · rw [if_pos h]; exact Dle.refl _ _
  · obtain rfl : i = k := by omega
    rw [if_neg (by omega)]
    match j, hj with
    | 0, _ => exact Dle.of_eq (by simp [rowP, rowT, tkC, List.getD])
    | 1, _ => exact Dle.of_eq (by simp [rowP, rowT, tkC, List.getD])
theorem toks_len (s : ByteArray) (sc : Bool) : (toksE s sc).l.length ≤ 20000 := by
  unfold toksE
  split
  · simp
  · have key : ∀ (n i : Nat) (out : List Tk), s.size - i < n → i ≤ s.size → out.length ≤ i → (dv cmE s sc i out).l.length ≤ s.size := by
      intro n
      induction n with
      | zero => intro i out h; omega
      | succ n ih =>
        intro i out h hi ho
        by_cases hlt : i < s.size
        · rw [dv, if_pos hlt]
          split
          · simp
          · rename_i k e _
            split
            · rename_i hie
              by_cases he : e ≤ s.size
              · exact ih e _ (by omega) he (by rw [List.length_append]; show _ + 1 ≤ _; omega)
              · rw [dv_end (by omega)]
                show (out ++ _).length ≤ _
                rw [List.length_append]
                show _ + 1 ≤ _
                omega
            · simp
        · rw [dv_end hlt]
          show out.length ≤ _
          omega
    have := key (s.size + 1) 0 [] (by omega) (by omega) (Nat.le_refl _)
    omega
end
end tk
end Go.Proofs.Ytiiohopjkepkgaa
