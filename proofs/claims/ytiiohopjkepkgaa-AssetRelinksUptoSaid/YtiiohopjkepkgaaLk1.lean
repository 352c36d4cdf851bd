/-
  Links of a style: asset.Links.
-/
import Derived.Test.YtiiohopjkepkgaaLk0
namespace Go.Proofs.Ytiiohopjkepkgaa
open Go.RowKit
set_option linter.unusedVariables false
set_option linter.unusedSimpArgs false
namespace tk
def rowL (l : List Lk) (i j : Nat) : DD := match j with | 0 => i64 (l.getD i .zero).f | 1 => i64 (l.getD i .zero).e | 2 => dS (l.getD i .zero).p | _ => .opq
structure Lks where
  l : List Lk
  at' : Int
  e : Int
def encLs (r : Lks) : DD := .tup [.sl 3 32 r.l.length (rowL r.l), i64 r.at', i64 r.e]
def linksE (s : ByteArray) : Lks := if (toksE s false).e ≠ 0 then ⟨[], (toksE s false).at', (toksE s false).e⟩ else ⟨lkP (toksE s false).l (toksE s false).l.length, 0, 0⟩
section
variable (E : Env)
set_option maxRecDepth 100000
theorem dle_errL {a e : Int} {r : Lks} (h : r = ⟨[], a, e⟩) : Dle (cx Try.prog mixed tyT_ok E) (.tup [.v (.slice none 0 0), i64 a, i64 e]) (encLs r) := by
  subst h
  exact .tup ⟨Dle.nil, Dle.refl _ _, Dle.refl _ _, trivial⟩
theorem row_lk (l : List Lk) (t : Lk) (cs : List DD) (hcs : cs = [i64 t.f, i64 t.e, dS t.p]) (i j : Nat) (hi : i < l.length + 1) (hj : j < 3) : Dle (cx Try.prog mixed tyT_ok E) (if i < l.length then rowL l i j else cs.getD ((i - l.length + 0) * 3 + j) .opq) (rowL (l ++ [t]) i j) := by
  subst hcs
  rcases Nat.lt_or_ge i l.length with h | h
  · rw [if_pos h]
    refine Dle.of_eq ?_
    unfold rowL
    simp only [List.getD]
    rw [List.getElem?_append_left h]
  · obtain rfl : i = l.length := by omega
    rw [if_neg (by omega)]
    match j, hj with
    | 0, _ => exact Dle.of_eq (by simp [rowL, List.getD])
    | 1, _ => exact Dle.of_eq (by simp [rowL, List.getD])
    | 2, _ => exact Dle.of_eq (by simp [rowL, List.getD])
theorem contains_sp (hML : ∀ w, E.G w → ML w) (s p : ByteArray) (hs : s.size < 4294967281) : Sp (cx Try.prog mixed tyT_ok E) 40 [dS s, dS p] (dB (Lib.contains s.data.toList p.data.toList)) :=
  Sp.of_v (vs := [.string s, .string p]) ⟨_, _, Try.func40, by kernel_rfl, rfl⟩ rfl (fun w hG => by
    obtain ⟨m, hm⟩ := hML w hG
    exact (Try.strings_Contains s p m w hs hm).mono fun e w' ⟨he, hb⟩ => ⟨he, hb ▸ Below.refl _ _⟩)
theorem among_sp (hML : ∀ w, E.G w → ML w) (t : Tk) (c : UInt8) : Sp (cx Try.prog mixed tyT_ok E) 22 [.agg [i64 t.k, dS t.t], dS ⟨#[c]⟩] (dB (amB t ⟨#[c]⟩)) := by
  have h1 := contains_sp E hML ⟨#[c]⟩ t.t (by show 1 < _; omega)
  unfold amB
  generalize Lib.contains (⟨#[c]⟩ : ByteArray).data.toList t.t.data.toList = b at *
  refine Sp.body Try.func22 (by kernel_rfl) rfl (by kernel_rfl) (by kernel_rfl) (by kernel_rfl) ?_
  repeat' first
    | (refine facW_intro ?_; intro _)
    | refine Or.inl ?_
    | ((conv => whnf); first | (refine condW_dec ?_ ?_ <;> intro _ <;> try (exfalso; omega)) | refine condW_not ?_ | (refine condW_bool ?_ ?_ <;> intro _ <;> try (exfalso; omega)) | (refine nbC_t (fun _ => ?_) ?_) | (refine nbC_f ?_ (fun _ => ?_)))
    | refine And.intro (by first | omega | (simp only [Int.toNat_natCast] at *; omega) | (simp only [Nat.reduceAdd, Int.cast_ofNat_Int, true_and, and_true]; omega) | kernel_rfl) ?_
    | refine RegW.run ?_
    | refine ⟨_, h1, ?_⟩
    | fail
  all_goals first
    | exact Dle.bo (by first | (simp_all; done) | (simp_all; omega))
    | trace_state
theorem isMarkR_sp (hML : ∀ w, E.G w → ML w) (t : Tk) (c : UInt8) : Sp (cx Try.prog mixed tyT_ok E) 30 [.agg [i64 t.k, dS t.t], dS ⟨#[c]⟩] (dB (amB t ⟨#[c]⟩)) := by
  have h1 := contains_sp E hML ⟨#[c]⟩ t.t (by show 1 < _; omega)
  unfold amB
  generalize Lib.contains (⟨#[c]⟩ : ByteArray).data.toList t.t.data.toList = b at *
  refine Sp.body Try.func30 (by kernel_rfl) rfl (by kernel_rfl) (by kernel_rfl) (by kernel_rfl) ?_
  repeat' first
    | (refine facW_intro ?_; intro _)
    | refine Or.inl ?_
    | ((conv => whnf); first | (refine condW_dec ?_ ?_ <;> intro _ <;> try (exfalso; omega)) | refine condW_not ?_ | (refine condW_bool ?_ ?_ <;> intro _ <;> try (exfalso; omega)) | (refine nbC_t (fun _ => ?_) ?_) | (refine nbC_f ?_ (fun _ => ?_)))
    | refine And.intro (by first | omega | (simp only [Int.toNat_natCast] at *; omega) | (simp only [Nat.reduceAdd, Int.cast_ofNat_Int, true_and, and_true]; omega) | kernel_rfl) ?_
    | refine RegW.run ?_
    | refine ⟨_, h1, ?_⟩
    | fail
  all_goals first
    | exact Dle.bo (by first | (simp_all; done) | (simp_all; omega))
    | trace_state
set_option maxHeartbeats 8000000 in
theorem links_sp (hML : ∀ w, E.G w → ML w) (s : ByteArray) (sc : Bool) (l : List Tk) (hs : s.size ≤ 20000) (hok : AllOk s sc l) (hl : l.length ≤ 20000) : Sp (cx Try.prog mixed tyT_ok E) 15 [.sl 4 40 l.length (rowT l)] (.sl 3 32 (lkP l l.length).length (rowL (lkP l l.length))) := by
  obtain ⟨r, hr⟩ : ∃ r, r = lkP l l.length := ⟨_, rfl⟩
  rw [← hr]
  refine Sp.body Try.func15 (by kernel_rfl) rfl (by kernel_rfl) (by kernel_rfl) (by kernel_rfl) ?_
  repeat' first
    | (refine facW_intro ?_; intro _)
    | refine Or.inl ?_
    | ((conv => whnf); first | (refine condW_dec ?_ ?_ <;> intro _ <;> try (exfalso; omega)) | refine condW_not ?_ | (refine condW_bool ?_ ?_ <;> intro _ <;> try (exfalso; omega)) | (refine nbC_t (fun _ => ?_) ?_) | (refine nbC_f ?_ (fun _ => ?_)))
    | refine And.intro (by first | omega | (simp only [Int.toNat_natCast] at *; omega) | (simp only [Nat.reduceAdd, Int.cast_ofNat_Int, true_and, and_true]; omega) | kernel_rfl) ?_
    | refine RegW.run ?_
    | fail
  refine ⟨Nat, fun k => [(4, i64 ((k : Int) + 1)), (3, .own 9 3 0 (lkP l k).length)], fun k => [], [], fun k => [(9, 36, (lkP l k).length, rowL (lkP l k))], fun k => 2 ≤ k, fun k => l.length - k, ⟨2, Nat.le_refl _, ⟨[(9, none)], ⟨by kernel_rfl, by kernel_rfl, by kernel_rfl, by kernel_rfl, by kernel_rfl, by kernel_rfl, by kernel_rfl⟩, (by repeat' first | (exact (congrArg List.length (lkP_two l)).symm) | exact trivial | exact rfl | kernel_rfl | exact Dle.of_eq rfl | exact MLe.of_eq rfl | exact Dle.i (by omega) | exact Dle.i (by simp only [Int.toNat_natCast] at *; omega) | exact Dle.nil | exact Dle.rc Dle.nil | exact Option.some_ne_none _ | exact Or.inl rfl | exact Or.inr trivial | omega | (simp only [Int.toNat_natCast] at *; omega) | (intro _ _ _ _; exact Dle.of_eq rfl) | refine And.intro ?_ ?_)⟩⟩, fun k hk => ?_⟩
  have hk : 2 ≤ k := hk
  have hkl := lkP_len l k
  by_cases hlt : k + 1 < l.length
  · obtain ⟨⟨f, e, hf, he, h1, h2, h3, h4, _⟩, _⟩ := hok k (by omega)
    have e3 : ((k : Int) + 1 - 3).toNat = k - 2 := by omega
    have e2 : ((k : Int) + 1 - 2).toNat = k - 1 := by omega
    have e1 : ((k : Int) + 1 - 1).toNat = k := by omega
    have e0 : ((k : Int) + 1).toNat = k + 1 := by omega
    have hf' : (l.getD ((k : Int) + 1 - 1).toNat .zero).f = f := by rw [e1]; exact hf
    have he' : (l.getD ((k : Int) + 1 - 1).toNat .zero).e = e := by rw [e1]; exact he
    have hz' : (l.getD ((k : Int) + 1 - 1).toNat .zero).k = 2 → (l.getD ((k : Int) + 1 - 1).toNat .zero).t.size = e - f ∧ f + 2 ≤ e := by
      rw [e1]
      exact fun h => ⟨h3 (by omega), h4 h⟩
    have a1 : Sp (cx Try.prog mixed tyT_ok E) 22 [.agg [i64 (l.getD ((k : Int) + 1 - 2).toNat .zero).k, dS (l.getD ((k : Int) + 1 - 2).toNat .zero).t], dS ⟨#[40]⟩] (dB (amB (l.getD (k - 1) .zero) ⟨#[40]⟩)) := by rw [e2]; exact among_sp E hML _ 40
    have a2 : Sp (cx Try.prog mixed tyT_ok E) 22 [.agg [i64 (l.getD ((k : Int) + 1).toNat .zero).k, dS (l.getD ((k : Int) + 1).toNat .zero).t], dS ⟨#[41]⟩] (dB (amB (l.getD (k + 1) .zero) ⟨#[41]⟩)) := by rw [e0]; exact among_sp E hML _ 41
    have hC : lkC l k = (decide ((l.getD ((k : Int) + 1 - 3).toNat .zero).k = 1) && (decide ((l.getD ((k : Int) + 1 - 3).toNat .zero).t = urlB) && (amB (l.getD (k - 1) .zero) ⟨#[40]⟩ && (decide ((l.getD ((k : Int) + 1 - 1).toNat .zero).k = 2) && amB (l.getD (k + 1) .zero) ⟨#[41]⟩)))) := by
      rw [e3, e1]
      unfold lkC
      rw [decide_eq_true ⟨hk, hlt⟩, Bool.true_and]
    cases hc : lkC l k
    · have hnx := lkP_no hc
      rw [hc] at hC
      generalize amB (l.getD (k - 1) .zero) ⟨#[40]⟩ = b1 at *
      generalize amB (l.getD (k + 1) .zero) ⟨#[41]⟩ = b2 at *
      have hC2 : ¬ ((l.getD ((k : Int) + 1 - 3).toNat .zero).k = 1 ∧ (l.getD ((k : Int) + 1 - 3).toNat .zero).t = urlB ∧ b1 = true ∧ (l.getD ((k : Int) + 1 - 1).toNat .zero).k = 2 ∧ b2 = true) := by
        rintro ⟨g1, g2, g3, g4, g5⟩
        rw [g1, g2, g3, g4, g5] at hC
        exact absurd hC (by decide)
      have hnl := congrArg List.length hnx
      repeat' first
        | (refine facW_intro ?_; intro _)
        | refine Or.inl ?_
        | ((conv => whnf); first | (refine condW_dec ?_ ?_ <;> intro _ <;> try (exfalso; omega)) | refine condW_not ?_ | (refine condW_bool ?_ ?_ <;> intro _ <;> try (exfalso; omega)) | (refine nbC_t (fun _ => ?_) ?_) | (refine nbC_f ?_ (fun _ => ?_)))
        | refine And.intro (by first | omega | (simp only [Int.toNat_natCast] at *; omega) | (simp only [Nat.reduceAdd, Int.cast_ofNat_Int, true_and, and_true]; omega) | kernel_rfl) ?_
        | refine RegW.run ?_
        | refine ⟨_, a1, ?_⟩
        | refine ⟨_, a2, ?_⟩
        | fail
      all_goals first
        | (exfalso; exact hC2 ⟨by assumption, by assumption, by assumption, by assumption, by assumption⟩)
        | exact ⟨k + 1, by omega, ⟨[(9, some 9)], ⟨by kernel_rfl, by kernel_rfl, by kernel_rfl, by kernel_rfl, by kernel_rfl, by kernel_rfl, by kernel_rfl⟩, (by repeat' first | (exact hnl.symm) | exact trivial | exact rfl | kernel_rfl | exact Dle.of_eq rfl | exact MLe.of_eq rfl | exact Dle.i (by omega) | exact Dle.i (by simp only [Int.toNat_natCast] at *; omega) | exact Dle.nil | exact Dle.rc Dle.nil | exact Option.some_ne_none _ | exact Or.inl rfl | exact Or.inr trivial | omega | (simp only [Int.toNat_natCast] at *; omega) | (intro _ _ _ _; exact Dle.of_eq rfl) | (intro i j hi hj; (rw [hnx]; exact Dle.refl _ _)) | refine And.intro ?_ ?_)⟩, by first | omega | (dsimp only; omega)⟩
        | trace_state
    · have hnx := lkP_yes hc
      rw [hc] at hC
      generalize amB (l.getD (k - 1) .zero) ⟨#[40]⟩ = b1 at *
      generalize amB (l.getD (k + 1) .zero) ⟨#[41]⟩ = b2 at *
      have hC2 : (l.getD ((k : Int) + 1 - 3).toNat .zero).k = 1 ∧ (l.getD ((k : Int) + 1 - 3).toNat .zero).t = urlB ∧ b1 = true ∧ (l.getD ((k : Int) + 1 - 1).toNat .zero).k = 2 ∧ b2 = true := by
        simpa using hC.symm
      obtain ⟨g1, g2, rfl, g4, rfl⟩ := hC2
      have hz := hz' g4
      have hnl : (lkP l k).length + 1 = (lkP l (k + 1)).length := by rw [hnx]; simp
      have eT : (((l.getD ((k : Int) + 1 - 1).toNat .zero).t.size : Int) - 1).toNat = (l.getD ((k : Int) + 1 - 1).toNat .zero).t.size - 1 := by omega
      have hm : [i64 ((l.getD ((k : Int) + 1 - 1).toNat .zero).f + 1), i64 ((l.getD ((k : Int) + 1 - 1).toNat .zero).e - 1), dS ((l.getD ((k : Int) + 1 - 1).toNat .zero).t.extract (1 : Int).toNat (((l.getD ((k : Int) + 1 - 1).toNat .zero).t.size : Int) - 1).toNat)] = ([i64 (lkM (l.getD k .zero)).f, i64 (lkM (l.getD k .zero)).e, dS (lkM (l.getD k .zero)).p] : List DD) := by
        rw [eT, e1]; rfl
      repeat' first
        | (refine facW_intro ?_; intro _)
        | refine Or.inl ?_
        | ((conv => whnf); first | (refine condW_dec ?_ ?_ <;> intro _ <;> try (exfalso; omega)) | refine condW_not ?_ | (refine condW_bool ?_ ?_ <;> intro _ <;> try (exfalso; omega)) | (refine nbC_t (fun _ => ?_) ?_) | (refine nbC_f ?_ (fun _ => ?_)))
        | refine And.intro (by first | omega | (simp only [Int.toNat_natCast] at *; omega) | (simp only [Nat.reduceAdd, Int.cast_ofNat_Int, true_and, and_true]; omega) | kernel_rfl) ?_
        | refine RegW.run ?_
        | refine ⟨_, a1, ?_⟩
        | refine ⟨_, a2, ?_⟩
        | fail
      all_goals first
        | (exfalso; rename_i h; exact h rfl)
        | (exfalso; rename_i h; exact h g2)
        | (exfalso; rename_i h; exact h g4)
        | (exfalso; omega)
        | exact ⟨k + 1, by omega, ⟨[(9, some 78)], ⟨by kernel_rfl, by kernel_rfl, by kernel_rfl, by kernel_rfl, by kernel_rfl, by kernel_rfl, by kernel_rfl⟩, (by repeat' first | (exact hnl) | exact trivial | exact rfl | kernel_rfl | exact Dle.of_eq rfl | exact MLe.of_eq rfl | exact Dle.i (by omega) | exact Dle.i (by simp only [Int.toNat_natCast] at *; omega) | exact Dle.nil | exact Dle.rc Dle.nil | exact Option.some_ne_none _ | exact Or.inl rfl | exact Or.inr trivial | omega | (simp only [Int.toNat_natCast] at *; omega) | (intro _ _ _ _; exact Dle.of_eq rfl) | (intro i j hi hj; (rw [hnx]; exact row_lk E (lkP l k) (lkM (l.getD k .zero)) _ hm i j (by omega) hj)) | refine And.intro ?_ ?_)⟩, by first | omega | (dsimp only; omega)⟩
        | trace_state
  · have e : lkP l k = r := by rw [hr]; exact lkP_all (by omega)
    rw [← e]
    repeat' first
      | (refine facW_intro ?_; intro _)
      | refine Or.inl ?_
      | ((conv => whnf); first | (refine condW_dec ?_ ?_ <;> intro _ <;> try (exfalso; omega)) | refine condW_not ?_ | (refine condW_bool ?_ ?_ <;> intro _ <;> try (exfalso; omega)) | (refine nbC_t (fun _ => ?_) ?_) | (refine nbC_f ?_ (fun _ => ?_)))
      | refine And.intro (by first | omega | (simp only [Int.toNat_natCast] at *; omega) | (simp only [Nat.reduceAdd, Int.cast_ofNat_Int, true_and, and_true]; omega) | kernel_rfl) ?_
      | refine RegW.run ?_
      | fail
    all_goals first
      | exact Dle.refl _ _
      | trace_state
end
end tk
end Go.Proofs.Ytiiohopjkepkgaa
