/-
  Minify, on both sides.
-/
import Derived.Test.YtdmbodlkkdeaoaaTkC
import Derived.Test.YtdmbodlkkdeaoaaSm3
import Derived.Test.YtdmbodlkkdeaoaaSh4
import Derived.Test.YtdmbodlkkdeaoaaSh7
namespace Go.Proofs.Ytdmbodlkkdeaoaa
open Go.RowKit
set_option linter.unusedVariables false
set_option linter.unusedSimpArgs false
namespace mi
open sh bl tk
def tok (t : Tk) : Tok := (t.k, t.t)
theorem getD_tok (l : List Tk) (i : Nat) : (l.map tok).getD i (0, ⟨#[]⟩) = tok (l.getD i .zero) := by
  simp only [List.getD, List.getElem?_map]
  cases l[i]? <;> rfl
theorem rowP_tok (l : List Tk) : rowP l = tokR (l.map tok) := by
  funext i j
  unfold rowP tokR
  rw [getD_tok]
  rfl
theorem encP_tok (l : List Tk) : (.sl 2 24 l.length (rowP l) : DD) = encToks (l.map tok) := by
  unfold encToks
  rw [List.length_map, rowP_tok]
theorem dv_small {s : ByteArray} {sc : Bool} : ∀ (n i : Nat) (out : List Tk), s.size - i < n → (∀ t ∈ out, t.t.size ≤ s.size + 1) → ∀ t ∈ (dv cmE s sc i out).l, t.t.size ≤ s.size + 1
  | 0, i, out, h, _, t, _ => by omega
  | n + 1, i, out, h, ho, t, ht => by
    rw [dv] at ht
    split at ht
    · rename_i hlt
      split at ht
      · cases ht
      · rename_i k e _
        split at ht
        · refine dv_small n e _ (by omega) (fun u hu => ?_) t ht
          rcases List.mem_append.1 hu with hu | hu
          · exact ho u hu
          · rw [List.mem_singleton.1 hu]
            show (if k = 4 then _ else _ : ByteArray).size ≤ _
            split
            · show 1 ≤ _
              omega
            · rw [ByteArray.size_extract]
              omega
        · cases ht
    · exact ho t ht
theorem sum_le (m : Nat) : ∀ l : List Tok, (∀ t ∈ l, t.2.size ≤ m) → (l.map (·.2.size)).sum ≤ l.length * m
  | [], _ => by simp
  | t :: l, h => by
    have ih := sum_le m l (fun u hu => h u (List.mem_cons_of_mem _ hu))
    have h1 := h t List.mem_cons_self
    simp only [List.map_cons, List.sum_cons, List.length_cons, Nat.succ_mul]
    omega
/-- The tokens of a style or script, as the one reckons them. -/
def rd (kd : Int) (s : ByteArray) : Tks := dv cmE s (decide (kd = 2)) 0 []
theorem rd_len {kd : Int} {s : ByteArray} (hs : s.size ≤ 20000) : (rd kd s).l.length ≤ 20000 := by
  have := toks_len s (decide (kd = 2))
  unfold toksE at this
  rw [if_neg (by omega)] at this
  exact this
def outT (kd : Int) (s : ByteArray) : List Tok := smallT kd ((rd kd s).l.map tok)
theorem outT_len {kd : Int} {s : ByteArray} (hs : s.size ≤ 20000) : (outT kd s).length ≤ 20000 := by
  have := sm.smallT_len kd ((rd kd s).l.map tok)
  rw [List.length_map] at this
  exact Nat.le_trans this (rd_len hs)
theorem outT_size {kd : Int} {s : ByteArray} (hs : s.size ≤ 20000) : (catS (txts (outT kd s))).size ≤ 1000000000 := by
  have h1 : (catS (txts (outT kd s))).size = (catL (txts (outT kd s))).length := rfl
  rw [h1, catL_len]
  have h2 := sum_le 20001 (outT kd s) (fun t ht => by
    have h3 := sm.smallT_mem kd _ t ht
    obtain ⟨u, hu, rfl⟩ := List.mem_map.1 h3
    have := dv_small (s.size + 1) 0 [] (by omega) (fun t h => by cases h) u hu
    show u.t.size ≤ _
    omega)
  have h3 := outT_len (kd := kd) hs
  have h4 : (outT kd s).length * 20001 ≤ 20000 * 20001 := Nat.mul_le_mul_right _ h3
  omega
/-- What Minify answers. -/
def minE (kd : Int) (s : ByteArray) : ByteArray × Int × Int :=
  if 20000 < s.size then (⟨#[]⟩, 0, 4) else if ¬ (kd = 1 ∨ kd = 2) then (⟨#[]⟩, 0, 10) else if (rd kd s).e ≠ 0 then (⟨#[]⟩, (rd kd s).at', (rd kd s).e) else (catS (txts (outT kd s)), 0, 0)
section
variable (E : Env)
set_option maxRecDepth 100000
theorem minify_sp (hML : ∀ w, E.G w → ML w) (kd : Int) (s : ByteArray) : Sp (cx Try.prog mixed tyT_ok E) 11 [i64 kd, dS s] (.tup [dS (minE kd s).1, i64 (minE kd s).2.1, i64 (minE kd s).2.2]) := by
  obtain ⟨q, hq⟩ : ∃ q, q = minE kd s := ⟨_, rfl⟩
  rw [← hq]
  unfold minE at hq
  by_cases h0 : 20000 < s.size
  · rw [if_pos h0] at hq
    subst hq
    refine Sp.body Try.func11 (by kernel_rfl) rfl (by kernel_rfl) (by kernel_rfl) (by kernel_rfl) ?_
    repeat' first
      | (refine facW_intro ?_; intro _)
      | refine Or.inl ?_
      | ((conv => whnf); first | (refine condW_dec ?_ ?_ <;> intro _ <;> try (exfalso; omega)) | refine condW_not ?_ | (refine condW_bool ?_ ?_ <;> intro _ <;> try (exfalso; omega)) | (refine nbC_t (fun _ => ?_) ?_) | (refine nbC_f ?_ (fun _ => ?_)))
      | refine And.intro (by first | omega | (simp only [Int.toNat_natCast] at *; omega) | (simp only [Nat.reduceAdd, Int.cast_ofNat_Int, true_and, and_true]; omega) | kernel_rfl) ?_
      | refine RegW.run ?_
      | fail
    all_goals first
      | (exfalso; omega)
      | exact Dle.refl _ _
      | trace_state
  · rw [if_neg h0] at hq
    by_cases hk : kd = 1 ∨ kd = 2
    · rw [if_neg (fun g => g hk)] at hq
      have h1 : Sp (cx Try.prog mixed tyT_ok E) 36 [dS s, dB (decide (kd = 2))] (encTs (rd kd s)) := divided_sp E hML s (by omega) _
      have h2 := plain_sp E (rd kd s).l (by have := rd_len (kd := kd) (s := s) (by omega); omega)
      rw [encP_tok] at h2
      have h3 := sm.smaller_sp E hML kd ((rd kd s).l.map tok) (by rw [List.length_map]; have := rd_len (kd := kd) (s := s) (by omega); omega)
      have h4 := joined_sp E (outT kd s) (by have := outT_len (kd := kd) (s := s) (by omega); omega) (by have := outT_size (kd := kd) (s := s) (by omega); omega)
      have h3 : Sp (cx Try.prog mixed tyT_ok E) 17 [i64 kd, encToks ((rd kd s).l.map tok)] (encToks (outT kd s)) := h3
      generalize outT kd s = o at hq h3 h4
      generalize rd kd s = r at hq h1 h2 h3
      unfold encTs at h1
      by_cases he : r.e = 0
      · rw [if_neg (fun g => g he)] at hq
        subst hq
        rcases hk with rfl | rfl
        · have h1 : Sp (cx Try.prog mixed tyT_ok E) 36 [dS s, dB false] _ := h1
          refine Sp.body Try.func11 (by kernel_rfl) rfl (by kernel_rfl) (by kernel_rfl) (by kernel_rfl) ?_
          repeat' first
            | (refine facW_intro ?_; intro _)
            | refine Or.inl ?_
            | ((conv => whnf); first | (refine condW_dec ?_ ?_ <;> intro _ <;> try (exfalso; omega)) | refine condW_not ?_ | (refine condW_bool ?_ ?_ <;> intro _ <;> try (exfalso; omega)) | (refine nbC_t (fun _ => ?_) ?_) | (refine nbC_f ?_ (fun _ => ?_)))
            | refine And.intro (by first | omega | (simp only [Int.toNat_natCast] at *; omega) | (simp only [Nat.reduceAdd, Int.cast_ofNat_Int, true_and, and_true]; omega) | kernel_rfl) ?_
            | refine RegW.run ?_
            | refine ⟨_, h1, ?_⟩
            | refine ⟨_, h2, ?_⟩
            | refine ⟨_, h3, ?_⟩
            | refine ⟨_, h4, ?_⟩
            | fail
          all_goals first
            | (exfalso; omega)
            | exact Dle.refl _ _
            | trace_state
        · have h1 : Sp (cx Try.prog mixed tyT_ok E) 36 [dS s, dB true] _ := h1
          refine Sp.body Try.func11 (by kernel_rfl) rfl (by kernel_rfl) (by kernel_rfl) (by kernel_rfl) ?_
          repeat' first
            | (refine facW_intro ?_; intro _)
            | refine Or.inl ?_
            | ((conv => whnf); first | (refine condW_dec ?_ ?_ <;> intro _ <;> try (exfalso; omega)) | refine condW_not ?_ | (refine condW_bool ?_ ?_ <;> intro _ <;> try (exfalso; omega)) | (refine nbC_t (fun _ => ?_) ?_) | (refine nbC_f ?_ (fun _ => ?_)))
            | refine And.intro (by first | omega | (simp only [Int.toNat_natCast] at *; omega) | (simp only [Nat.reduceAdd, Int.cast_ofNat_Int, true_and, and_true]; omega) | kernel_rfl) ?_
            | refine RegW.run ?_
            | refine ⟨_, h1, ?_⟩
            | refine ⟨_, h2, ?_⟩
            | refine ⟨_, h3, ?_⟩
            | refine ⟨_, h4, ?_⟩
            | fail
          all_goals first
            | (exfalso; omega)
            | exact Dle.refl _ _
            | trace_state
      · rw [if_pos he] at hq
        subst hq
        rcases hk with rfl | rfl
        · have h1 : Sp (cx Try.prog mixed tyT_ok E) 36 [dS s, dB false] _ := h1
          refine Sp.body Try.func11 (by kernel_rfl) rfl (by kernel_rfl) (by kernel_rfl) (by kernel_rfl) ?_
          repeat' first
            | (refine facW_intro ?_; intro _)
            | refine Or.inl ?_
            | ((conv => whnf); first | (refine condW_dec ?_ ?_ <;> intro _ <;> try (exfalso; omega)) | refine condW_not ?_ | (refine condW_bool ?_ ?_ <;> intro _ <;> try (exfalso; omega)) | (refine nbC_t (fun _ => ?_) ?_) | (refine nbC_f ?_ (fun _ => ?_)))
            | refine And.intro (by first | omega | (simp only [Int.toNat_natCast] at *; omega) | (simp only [Nat.reduceAdd, Int.cast_ofNat_Int, true_and, and_true]; omega) | kernel_rfl) ?_
            | refine RegW.run ?_
            | refine ⟨_, h1, ?_⟩
            | refine ⟨_, h2, ?_⟩
            | refine ⟨_, h3, ?_⟩
            | refine ⟨_, h4, ?_⟩
            | fail
          all_goals first
            | (exfalso; omega)
            | exact Dle.refl _ _
            | trace_state
        · have h1 : Sp (cx Try.prog mixed tyT_ok E) 36 [dS s, dB true] _ := h1
          refine Sp.body Try.func11 (by kernel_rfl) rfl (by kernel_rfl) (by kernel_rfl) (by kernel_rfl) ?_
          repeat' first
            | (refine facW_intro ?_; intro _)
            | refine Or.inl ?_
            | ((conv => whnf); first | (refine condW_dec ?_ ?_ <;> intro _ <;> try (exfalso; omega)) | refine condW_not ?_ | (refine condW_bool ?_ ?_ <;> intro _ <;> try (exfalso; omega)) | (refine nbC_t (fun _ => ?_) ?_) | (refine nbC_f ?_ (fun _ => ?_)))
            | refine And.intro (by first | omega | (simp only [Int.toNat_natCast] at *; omega) | (simp only [Nat.reduceAdd, Int.cast_ofNat_Int, true_and, and_true]; omega) | kernel_rfl) ?_
            | refine RegW.run ?_
            | refine ⟨_, h1, ?_⟩
            | refine ⟨_, h2, ?_⟩
            | refine ⟨_, h3, ?_⟩
            | refine ⟨_, h4, ?_⟩
            | fail
          all_goals first
            | (exfalso; omega)
            | exact Dle.refl _ _
            | trace_state
    · rw [if_pos hk] at hq
      subst hq
      refine Sp.body Try.func11 (by kernel_rfl) rfl (by kernel_rfl) (by kernel_rfl) (by kernel_rfl) ?_
      repeat' first
        | (refine facW_intro ?_; intro _)
        | refine Or.inl ?_
        | ((conv => whnf); first | (refine condW_dec ?_ ?_ <;> intro _ <;> try (exfalso; omega)) | refine condW_not ?_ | (refine condW_bool ?_ ?_ <;> intro _ <;> try (exfalso; omega)) | (refine nbC_t (fun _ => ?_) ?_) | (refine nbC_f ?_ (fun _ => ?_)))
        | refine And.intro (by first | omega | (simp only [Int.toNat_natCast] at *; omega) | (simp only [Nat.reduceAdd, Int.cast_ofNat_Int, true_and, and_true]; omega) | kernel_rfl) ?_
        | refine RegW.run ?_
        | fail
      all_goals first
        | (exfalso; omega)
        | exact Dle.refl _ _
        | trace_state
theorem minified_sp (hML : ∀ w, E.G w → ML w) (kd : Int) (hk : kd = 1 ∨ kd = 2) (s : ByteArray) (hs : s.size ≤ 20000) : Sp (cx Try.prog mixed tyT_ok E) 39 [i64 kd, dS s] (dS (catS (txts (outT kd s)))) := by
  have h1 : Sp (cx Try.prog mixed tyT_ok E) 85 [dS s, dB (decide (kd = 2))] (encPs (rd kd s)) := tokensIn_sp E hML s (by omega) _
  have h2 : Sp (cx Try.prog mixed tyT_ok E) 18 [i64 kd, encToks ((rd kd s).l.map tok)] (encToks (outT kd s)) := refSmaller_sp E hML kd hk _ (by rw [List.length_map]; have := rd_len (kd := kd) hs; omega)
  have ho := outT_len (kd := kd) hs
  have hz := outT_size (kd := kd) hs
  unfold encPs at h1
  rw [encP_tok] at h1
  generalize outT kd s = o at h2 ho hz
  generalize rd kd s = r at h1 h2
  have hall : catS (txts (o.take o.length)) = catS (txts o) := by rw [List.take_of_length_le (Nat.le_refl _)]
  have h1 : (kd = 1 ∧ Sp (cx Try.prog mixed tyT_ok E) 85 [dS s, dB false] (.tup [encToks (r.l.map tok), i64 r.at', i64 r.e])) ∨ (kd = 2 ∧ Sp (cx Try.prog mixed tyT_ok E) 85 [dS s, dB true] (.tup [encToks (r.l.map tok), i64 r.at', i64 r.e])) := by
    rcases hk with rfl | rfl
    · exact .inl ⟨rfl, h1⟩
    · exact .inr ⟨rfl, h1⟩
  rcases h1 with ⟨rfl, h1⟩ | ⟨rfl, h1⟩
  all_goals
    refine Sp.body Try.func39 (by kernel_rfl) rfl (by kernel_rfl) (by kernel_rfl) (by kernel_rfl) ?_
    repeat' first
      | (refine facW_intro ?_; intro _)
      | refine Or.inl ?_
      | ((conv => whnf); first | (refine condW_dec ?_ ?_ <;> intro _ <;> try (exfalso; omega)) | refine condW_not ?_ | (refine condW_bool ?_ ?_ <;> intro _ <;> try (exfalso; omega)) | (refine nbC_t (fun _ => ?_) ?_) | (refine nbC_f ?_ (fun _ => ?_)))
      | refine And.intro (by first | omega | (simp only [Int.toNat_natCast] at *; omega) | (simp only [Nat.reduceAdd, Int.cast_ofNat_Int, true_and, and_true]; omega) | kernel_rfl) ?_
      | refine RegW.run ?_
      | refine ⟨_, h1, ?_⟩
      | refine ⟨_, h2, ?_⟩
      | fail
    refine ⟨Nat, fun k => [(24, i64 k), (8, dS (catS (txts (o.take k))))], fun k => [], [], fun k => [], fun k => k ≤ o.length, fun k => o.length - k, ⟨0, by omega, ⟨[], ⟨by kernel_rfl, by kernel_rfl, by kernel_rfl, by kernel_rfl, by kernel_rfl, by kernel_rfl, by kernel_rfl⟩, (by repeat' first | exact trivial | exact rfl | kernel_rfl | exact Dle.of_eq rfl | exact MLe.of_eq rfl | exact Dle.i (by omega) | exact Dle.i (by simp only [Int.toNat_natCast] at *; omega) | exact Dle.nil | exact Dle.rc Dle.nil | exact Option.some_ne_none _ | exact Or.inl rfl | exact Or.inr trivial | omega | (simp only [Int.toNat_natCast] at *; omega) | (intro _ _ _ _; exact Dle.of_eq rfl) | refine And.intro ?_ ?_)⟩⟩, fun k hk => ?_⟩
    have hk : k ≤ o.length := hk
    by_cases hlt : k < o.length
    · have g1 := sizesT_succ hlt
      have g1 : sizesT o (k + 1) = sizesT o k + (o.getD ((k : Int)).toNat (0, ⟨#[]⟩)).2.size := g1
      have g2 := sizesT_max o (k + 1)
      have g3 := catS_size o k
      have g4 := catS_snoc hlt
      repeat' first
        | (refine facW_intro ?_; intro _)
        | refine Or.inl ?_
        | ((conv => whnf); first | (refine condW_dec ?_ ?_ <;> intro _ <;> try (exfalso; omega)) | refine condW_not ?_ | (refine condW_bool ?_ ?_ <;> intro _ <;> try (exfalso; omega)) | (refine nbC_t (fun _ => ?_) ?_) | (refine nbC_f ?_ (fun _ => ?_)))
        | refine And.intro (by first | omega | (simp only [Int.toNat_natCast] at *; omega) | (simp only [Nat.reduceAdd, Int.cast_ofNat_Int, true_and, and_true]; omega) | kernel_rfl) ?_
        | refine RegW.run ?_
        | fail
      all_goals first
        | exact ⟨k + 1, by omega, ⟨[], ⟨by kernel_rfl, by kernel_rfl, by kernel_rfl, by kernel_rfl, by kernel_rfl, by kernel_rfl, by kernel_rfl⟩, (by repeat' first | (exact Dle.s g4.symm) | exact trivial | exact rfl | kernel_rfl | exact Dle.of_eq rfl | exact MLe.of_eq rfl | exact Dle.i (by omega) | exact Dle.i (by simp only [Int.toNat_natCast] at *; omega) | exact Dle.nil | exact Dle.rc Dle.nil | exact Option.some_ne_none _ | exact Or.inl rfl | exact Or.inr trivial | omega | (simp only [Int.toNat_natCast] at *; omega) | (intro _ _ _ _; exact Dle.of_eq rfl) | refine And.intro ?_ ?_)⟩, by first | omega | (dsimp only; omega)⟩
        | trace_state
    · obtain rfl : k = o.length := Nat.le_antisymm hk (Nat.le_of_not_lt hlt)
      repeat' first
        | (refine facW_intro ?_; intro _)
        | refine Or.inl ?_
        | ((conv => whnf); first | (refine condW_dec ?_ ?_ <;> intro _ <;> try (exfalso; omega)) | refine condW_not ?_ | (refine condW_bool ?_ ?_ <;> intro _ <;> try (exfalso; omega)) | (refine nbC_t (fun _ => ?_) ?_) | (refine nbC_f ?_ (fun _ => ?_)))
        | refine And.intro (by first | omega | (simp only [Int.toNat_natCast] at *; omega) | (simp only [Nat.reduceAdd, Int.cast_ofNat_Int, true_and, and_true]; omega) | kernel_rfl) ?_
        | refine RegW.run ?_
        | fail
      all_goals first
        | exact Dle.s hall
        | trace_state
theorem minifyOf_sp (hML : ∀ w, E.G w → ML w) (kd : Int) (s : ByteArray) : Sp (cx Try.prog mixed tyT_ok E) 12 [i64 kd, dS s] (.tup [dS (minE kd s).1, i64 (minE kd s).2.1, i64 (minE kd s).2.2]) := by
  obtain ⟨q, hq⟩ : ∃ q, q = minE kd s := ⟨_, rfl⟩
  rw [← hq]
  unfold minE at hq
  by_cases h0 : 20000 < s.size
  · rw [if_pos h0] at hq
    subst hq
    refine Sp.body Try.func12 (by kernel_rfl) rfl (by kernel_rfl) (by kernel_rfl) (by kernel_rfl) ?_
    repeat' first
      | (refine facW_intro ?_; intro _)
      | refine Or.inl ?_
      | ((conv => whnf); first | (refine condW_dec ?_ ?_ <;> intro _ <;> try (exfalso; omega)) | refine condW_not ?_ | (refine condW_bool ?_ ?_ <;> intro _ <;> try (exfalso; omega)) | (refine nbC_t (fun _ => ?_) ?_) | (refine nbC_f ?_ (fun _ => ?_)))
      | refine And.intro (by first | omega | (simp only [Int.toNat_natCast] at *; omega) | (simp only [Nat.reduceAdd, Int.cast_ofNat_Int, true_and, and_true]; omega) | kernel_rfl) ?_
      | refine RegW.run ?_
      | fail
    all_goals first
      | (exfalso; omega)
      | exact Dle.refl _ _
      | trace_state
  · rw [if_neg h0] at hq
    by_cases hk : kd = 1 ∨ kd = 2
    · rw [if_neg (fun g => g hk)] at hq
      have h1 := tokensOf_sp E hML s (decide (kd = 2))
      have h2 := minified_sp E hML kd hk s (by omega)
      have e : toksE s (decide (kd = 2)) = rd kd s := by unfold toksE; rw [if_neg h0]; rfl
      rw [e] at h1
      unfold encPs at h1
      generalize outT kd s = o at hq h2
      generalize rd kd s = r at hq h1
      by_cases he : r.e = 0
      · rw [if_neg (fun g => g he)] at hq
        subst hq
        rcases hk with rfl | rfl
        · have h1 : Sp (cx Try.prog mixed tyT_ok E) 38 [dS s, dB false] _ := h1
          refine Sp.body Try.func12 (by kernel_rfl) rfl (by kernel_rfl) (by kernel_rfl) (by kernel_rfl) ?_
          repeat' first
            | (refine facW_intro ?_; intro _)
            | refine Or.inl ?_
            | ((conv => whnf); first | (refine condW_dec ?_ ?_ <;> intro _ <;> try (exfalso; omega)) | refine condW_not ?_ | (refine condW_bool ?_ ?_ <;> intro _ <;> try (exfalso; omega)) | (refine nbC_t (fun _ => ?_) ?_) | (refine nbC_f ?_ (fun _ => ?_)))
            | refine And.intro (by first | omega | (simp only [Int.toNat_natCast] at *; omega) | (simp only [Nat.reduceAdd, Int.cast_ofNat_Int, true_and, and_true]; omega) | kernel_rfl) ?_
            | refine RegW.run ?_
            | refine ⟨_, h1, ?_⟩
            | refine ⟨_, h2, ?_⟩
            | fail
          all_goals first
            | (exfalso; omega)
            | exact Dle.refl _ _
            | trace_state
        · have h1 : Sp (cx Try.prog mixed tyT_ok E) 38 [dS s, dB true] _ := h1
          refine Sp.body Try.func12 (by kernel_rfl) rfl (by kernel_rfl) (by kernel_rfl) (by kernel_rfl) ?_
          repeat' first
            | (refine facW_intro ?_; intro _)
            | refine Or.inl ?_
            | ((conv => whnf); first | (refine condW_dec ?_ ?_ <;> intro _ <;> try (exfalso; omega)) | refine condW_not ?_ | (refine condW_bool ?_ ?_ <;> intro _ <;> try (exfalso; omega)) | (refine nbC_t (fun _ => ?_) ?_) | (refine nbC_f ?_ (fun _ => ?_)))
            | refine And.intro (by first | omega | (simp only [Int.toNat_natCast] at *; omega) | (simp only [Nat.reduceAdd, Int.cast_ofNat_Int, true_and, and_true]; omega) | kernel_rfl) ?_
            | refine RegW.run ?_
            | refine ⟨_, h1, ?_⟩
            | refine ⟨_, h2, ?_⟩
            | fail
          all_goals first
            | (exfalso; omega)
            | exact Dle.refl _ _
            | trace_state
      · rw [if_pos he] at hq
        subst hq
        rcases hk with rfl | rfl
        · have h1 : Sp (cx Try.prog mixed tyT_ok E) 38 [dS s, dB false] _ := h1
          refine Sp.body Try.func12 (by kernel_rfl) rfl (by kernel_rfl) (by kernel_rfl) (by kernel_rfl) ?_
          repeat' first
            | (refine facW_intro ?_; intro _)
            | refine Or.inl ?_
            | ((conv => whnf); first | (refine condW_dec ?_ ?_ <;> intro _ <;> try (exfalso; omega)) | refine condW_not ?_ | (refine condW_bool ?_ ?_ <;> intro _ <;> try (exfalso; omega)) | (refine nbC_t (fun _ => ?_) ?_) | (refine nbC_f ?_ (fun _ => ?_)))
            | refine And.intro (by first | omega | (simp only [Int.toNat_natCast] at *; omega) | (simp only [Nat.reduceAdd, Int.cast_ofNat_Int, true_and, and_true]; omega) | kernel_rfl) ?_
            | refine RegW.run ?_
            | refine ⟨_, h1, ?_⟩
            | refine ⟨_, h2, ?_⟩
            | fail
          all_goals first
            | (exfalso; omega)
            | exact Dle.refl _ _
            | trace_state
        · have h1 : Sp (cx Try.prog mixed tyT_ok E) 38 [dS s, dB true] _ := h1
          refine Sp.body Try.func12 (by kernel_rfl) rfl (by kernel_rfl) (by kernel_rfl) (by kernel_rfl) ?_
          repeat' first
            | (refine facW_intro ?_; intro _)
            | refine Or.inl ?_
            | ((conv => whnf); first | (refine condW_dec ?_ ?_ <;> intro _ <;> try (exfalso; omega)) | refine condW_not ?_ | (refine condW_bool ?_ ?_ <;> intro _ <;> try (exfalso; omega)) | (refine nbC_t (fun _ => ?_) ?_) | (refine nbC_f ?_ (fun _ => ?_)))
            | refine And.intro (by first | omega | (simp only [Int.toNat_natCast] at *; omega) | (simp only [Nat.reduceAdd, Int.cast_ofNat_Int, true_and, and_true]; omega) | kernel_rfl) ?_
            | refine RegW.run ?_
            | refine ⟨_, h1, ?_⟩
            | refine ⟨_, h2, ?_⟩
            | fail
          all_goals first
            | (exfalso; omega)
            | exact Dle.refl _ _
            | trace_state
    · rw [if_pos hk] at hq
      subst hq
      refine Sp.body Try.func12 (by kernel_rfl) rfl (by kernel_rfl) (by kernel_rfl) (by kernel_rfl) ?_
      repeat' first
        | (refine facW_intro ?_; intro _)
        | refine Or.inl ?_
        | ((conv => whnf); first | (refine condW_dec ?_ ?_ <;> intro _ <;> try (exfalso; omega)) | refine condW_not ?_ | (refine condW_bool ?_ ?_ <;> intro _ <;> try (exfalso; omega)) | (refine nbC_t (fun _ => ?_) ?_) | (refine nbC_f ?_ (fun _ => ?_)))
        | refine And.intro (by first | omega | (simp only [Int.toNat_natCast] at *; omega) | (simp only [Nat.reduceAdd, Int.cast_ofNat_Int, true_and, and_true]; omega) | kernel_rfl) ?_
        | refine RegW.run ?_
        | fail
      all_goals first
        | (exfalso; omega)
        | exact Dle.refl _ _
        | trace_state
theorem assetMinifies_sp (hML : ∀ w, E.G w → ML w) (kd : Int) (s : ByteArray) : Sp (cx Try.prog mixed tyT_ok E) 4 [i64 kd, dS s] (dB true) := by
  have h1 := minify_sp E hML kd s
  have h2 := minifyOf_sp E hML kd s
  generalize minE kd s = q at h1 h2
  refine Sp.body Try.func4 (by kernel_rfl) rfl (by kernel_rfl) (by kernel_rfl) (by kernel_rfl) ?_
  repeat' first
    | (refine facW_intro ?_; intro _)
    | refine Or.inl ?_
    | ((conv => whnf); first | (refine condW_dec ?_ ?_ <;> intro _ <;> try (exfalso; omega)) | refine condW_not ?_ | (refine condW_bool ?_ ?_ <;> intro _ <;> try (exfalso; omega)) | (refine nbC_t (fun _ => ?_) ?_) | (refine nbC_f ?_ (fun _ => ?_)))
    | refine And.intro (by first | omega | (simp only [Int.toNat_natCast] at *; omega) | (simp only [Nat.reduceAdd, Int.cast_ofNat_Int, true_and, and_true]; omega) | kernel_rfl) ?_
    | refine RegW.run ?_
    | refine ⟨_, h1, ?_⟩
    | refine ⟨_, h2, ?_⟩
    | fail
  all_goals first
    | (exfalso; rename_i h; exact h rfl)
    | exact Dle.bo (by simp)
    | trace_state
end
end mi
end Go.Proofs.Ytdmbodlkkdeaoaa
