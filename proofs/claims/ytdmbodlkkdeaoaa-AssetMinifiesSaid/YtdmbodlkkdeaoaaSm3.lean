/-
  Tokens made smaller: needed, idle. asset.smaller over data.
-/
import Derived.Test.YtdmbodlkkdeaoaaSh1
import Derived.Test.YtdmbodlkkdeaoaaSm2
import Derived.Test.YtdmbodlkkdeaoaaSh3
namespace Go.Proofs.Ytdmbodlkkdeaoaa
open Go.RowKit
set_option linter.unusedVariables false
set_option linter.unusedSimpArgs false
namespace sh
open bl tk
section
variable (E : Env)
set_option maxRecDepth 100000
theorem needed_sp (hML : ∀ w, E.G w → ML w) (k : Int) (s : List Tok) (i : Nat) (hi : i < s.length) : Sp (cx Try.prog mixed tyT_ok E) 51 [i64 k, encToks s, i64 i] (dB (needT k s i)) := by
  obtain ⟨q, hq⟩ : ∃ q, q = needT k s i := ⟨_, rfl⟩
  rw [← hq]
  unfold needT at hq
  by_cases h0 : i = 0 ∨ (i : Int) = (s.length : Int) - 1
  · rw [if_pos h0] at hq
    subst hq
    refine Sp.body Try.func51 (by kernel_rfl) rfl (by kernel_rfl) (by kernel_rfl) (by kernel_rfl) ?_
    repeat' first
      | (refine facW_intro ?_; intro _)
      | refine Or.inl ?_
      | ((conv => whnf); first | (refine condW_dec ?_ ?_ <;> intro _ <;> try (exfalso; omega)) | refine condW_not ?_ | (refine condW_bool ?_ ?_ <;> intro _ <;> try (exfalso; omega)) | (refine nbC_t (fun _ => ?_) ?_) | (refine nbC_f ?_ (fun _ => ?_)))
      | refine And.intro (by first | omega | (simp only [Int.toNat_natCast] at *; omega) | (simp only [Nat.reduceAdd, Int.cast_ofNat_Int, true_and, and_true]; omega) | kernel_rfl) ?_
      | refine RegW.run ?_
      | fail
    all_goals first
      | (exfalso; omega)
      | exact Dle.refl _ _
      | trace_state
  · rw [if_neg h0] at hq
    have e1 : i - 1 = ((i : Int) - 1).toNat := by omega
    have e2 : i + 1 = ((i : Int) + 1).toNat := by omega
    rw [e1, e2] at hq
    by_cases hk : k = 1
    · rw [if_pos hk] at hq
      have ha := among_sp E hML (s.getD ((i : Int) - 1).toNat zt) mA (by decide)
      have hb := among_sp E hML (s.getD ((i : Int) + 1).toNat zt) mB (by decide)
      generalize amT (s.getD ((i : Int) - 1).toNat zt) mA = a at hq ha
      generalize amT (s.getD ((i : Int) + 1).toNat zt) mB = b at hq hb
      refine Sp.body Try.func51 (by kernel_rfl) rfl (by kernel_rfl) (by kernel_rfl) (by kernel_rfl) ?_
      repeat' first
        | (refine facW_intro ?_; intro _)
        | refine Or.inl ?_
        | ((conv => whnf); first | (refine condW_dec ?_ ?_ <;> intro _ <;> try (exfalso; omega)) | refine condW_not ?_ | (refine condW_bool ?_ ?_ <;> intro _ <;> try (exfalso; omega)) | (refine nbC_t (fun _ => ?_) ?_) | (refine nbC_f ?_ (fun _ => ?_)))
        | refine And.intro (by first | omega | (simp only [Int.toNat_natCast] at *; omega) | (simp only [Nat.reduceAdd, Int.cast_ofNat_Int, true_and, and_true]; omega) | kernel_rfl) ?_
        | refine RegW.run ?_
        | refine ⟨_, ha, ?_⟩
        | refine ⟨_, hb, ?_⟩
        | fail
      all_goals first
        | (exfalso; omega)
        | exact Dle.bo (by subst hq; simp_all; done)
        | trace_state
    · rw [if_neg hk] at hq
      refine Sp.body Try.func51 (by kernel_rfl) rfl (by kernel_rfl) (by kernel_rfl) (by kernel_rfl) ?_
      repeat' first
        | (refine facW_intro ?_; intro _)
        | refine Or.inl ?_
        | ((conv => whnf); first | (refine condW_dec ?_ ?_ <;> intro _ <;> try (exfalso; omega)) | refine condW_not ?_ | (refine condW_bool ?_ ?_ <;> intro _ <;> try (exfalso; omega)) | (refine nbC_t (fun _ => ?_) ?_) | (refine nbC_f ?_ (fun _ => ?_)))
        | refine And.intro (by first | omega | (simp only [Int.toNat_natCast] at *; omega) | (simp only [Nat.reduceAdd, Int.cast_ofNat_Int, true_and, and_true]; omega) | kernel_rfl) ?_
        | refine RegW.run ?_
        | fail
      all_goals first
        | (exfalso; omega)
        | exact Dle.bo (by subst hq; first | (simp_all; done) | (simp_all; omega))
        | trace_state
end
end sh
end Go.Proofs.Ytdmbodlkkdeaoaa
namespace Go.Proofs.Ytdmbodlkkdeaoaa
open Go.RowKit
set_option linter.unusedVariables false
set_option linter.unusedSimpArgs false
namespace sm
open sh bl tk
section
variable (E : Env)
set_option maxRecDepth 100000
/-- A contract over data, of a function with a text, in the world. -/
theorem sp_raw {f : FuncId} {ds : List DD} {d : DD} (h : Sp (cx Try.prog mixed tyT_ok E) f ds d) (he : ∀ args w, (callFunc f args).run Try.prog w = .ok (.enter f args) w) (w : World) (vs : Array Value) (hG : E.G w) (hl : vs.size = ds.length)
    (hr : ∀ i d, ds[i]? = some d → Rep view (fun b _ => b < w.heap.size) w b0 d (vs.getD i undef)) :
    Calls Try.prog f vs w fun e w' => ∃ x M' β', e = .returned x ∧ Below w.heap.size w w' ∧ (∀ b o, M' b o → b < w'.heap.size) ∧ Rep view M' w' β' d x := by
  rcases h with h | h
  · refine (h.2 (fun b _ => b < w.heap.size) b0 w vs hG (fun b o hm => Nat.lt_of_lt_of_le (E.mg b o hm) (E.gsz w hG)) (fun _ _ hm => hm) hl hr ⟨(fun l o hm => by cases hm), fun l o l' o' b c c' hm => by cases hm⟩ (fun b ⟨l, o, c, hm, _⟩ => by cases hm)).mono ?_
    rintro e w' ⟨x, M', β', h1, h2, _, _, h5, h6, _⟩
    refine ⟨x, M', β', h1, ⟨h2.os, h2.tape, h2.output, h2.size, fun k hk => h2.block k hk (fun ⟨l, o, c, hm, _⟩ => by cases hm)⟩, fun b o hm => ?_, h6⟩
    rcases h5 b o hm with h | ⟨l, o, c, hm, _⟩ | h
    · have := h2.size; omega
    · cases hm
    · exact h.2
  · obtain ⟨x, h1, _⟩ := h (fun b _ => b < w.heap.size) b0 w vs hl hr
    have h2 := (he vs w).symm.trans h1
    cases h2
theorem rep_of_toks {w : World} {β : Bt} {s : List Tok} {v : Value} (hT : Toks w.heap.size w v s) (hb : s.length ≤ 2000000) (hok : ∀ t ∈ s, t.2.size ≤ maxLen) : Rep view (fun b _ => b < w.heap.size) w β (encToks s) v := by
  rcases hT with ⟨A, c, rfl, rfl, hc, hA⟩ | ⟨b, off, cap, rfl, hbl, hc, hn, hm⟩
  · exact .nil hc hA
  · refine .sl (fun i j => if j = 0 then .int .i64 (s.getD i zt).1 else .string (s.getD i zt).2) hn hm (by omega) (fun i j hi hj => ?_) (fun i j hi hj => ?_)
    · match j, hj with
      | 0, _ => exact ⟨hbl, (hc i hi).1, rfl⟩
      | 1, _ => exact ⟨hbl, (hc i hi).2, rfl⟩
    · match j, hj with
      | 0, _ => exact .v rfl
      | 1, _ =>
        have h1 : s.getD i zt ∈ s := by
          rw [List.getD_eq_getElem?_getD, List.getElem?_eq_getElem hi, Option.getD_some]
          exact List.getElem_mem _
        exact .v (decide_eq_true (hok _ h1))
theorem needed_raw (hML : ∀ w, E.G w → ML w) (kd : Int) (s : List Tok) (A : Option Addr) (c i : Nat) (W : World) (hG : E.G W) (hb : s.length ≤ 2000000) (hok : ∀ t ∈ s, t.2.size ≤ maxLen) (hT : Toks W.heap.size W (.slice A s.length c) s) (hi : i < s.length) :
    Calls Try.prog 51 #[.int .i64 kd, .slice A s.length c, .int .i64 i] W fun e W' => e = .returned (.bool (needT kd s i)) ∧ Below W.heap.size W W' := by
  refine (sp_raw E (needed_sp E hML kd s i hi) (enters_of Try.func51 (by kernel_rfl) rfl) W #[.int .i64 kd, .slice A s.length c, .int .i64 i] hG rfl (fun j d hd => ?_)).mono ?_
  · match j, hd with
    | 0, hd => injection hd with hd; subst hd; exact .v rfl
    | 1, hd => injection hd with hd; subst hd; exact rep_of_toks hT hb hok
    | 2, hd => injection hd with hd; subst hd; exact .v rfl
  · rintro e W' ⟨x, M', β', rfl, hB, _, hr⟩
    exact ⟨by rw [hr.val.1], hB⟩
theorem idle_raw (hML : ∀ w, E.G w → ML w) (s : List Tok) (A : Option Addr) (c : Nat) (W : World) (hG : E.G W) (hb : s.length ≤ 2000000) (hok : ∀ t ∈ s, t.2.size ≤ maxLen) (hT : Toks W.heap.size W (.slice A s.length c) s) :
    Calls Try.prog 50 #[.slice A s.length c] W fun e W' => ∃ Ab cb, e = .returned (.slice Ab s.length cb) ∧ (s.length = 0 ∨ ∃ b o, Ab = some ⟨b, o, none⟩ ∧ b < W'.heap.size ∧ ∀ j, j < s.length → W'.cell? ⟨b, o + j, none⟩ = some (.bool (idleT s j))) ∧ Below W.heap.size W W' := by
  refine (sp_raw E (idle_sp E hML s (by omega)) (enters_of Try.func50 (by kernel_rfl) rfl) W #[.slice A s.length c] hG rfl (fun j d hd => ?_)).mono ?_
  · match j, hd with
    | 0, hd => injection hd with hd; subst hd; exact rep_of_toks hT hb hok
  · rintro e W' ⟨x, M', β', rfl, hB, hM, hr⟩
    generalize hn : s.length = n at hr
    cases hr with
    | nil hc hA => exact ⟨_, _, rfl, .inl rfl, hB⟩
    | @sl _ _ _ _ c b o _ u hc hm hb2 hu hr =>
      refine ⟨_, _, rfl, ?_, hB⟩
      rcases Nat.eq_zero_or_pos n with h0 | h0
      · exact .inl h0
      · refine .inr ⟨b, o, rfl, hM _ _ (hu 0 0 h0 (by omega)).1, fun j hj => ?_⟩
        obtain ⟨h1, h2, _⟩ := hu j 0 hj (by omega)
        have h3 := (hr j 0 hj (by omega)).val.1
        rw [h3] at h2
        simpa using h2
theorem rep_toks2 {M : Nat → Nat → Prop} {w : World} {β : Bt} {l : List Tok} {x : Value} {N : Nat} (hM : ∀ b o, M b o → b < N) (h : Rep view M w β (encToks l) x) :
    ∃ A c, x = .slice A l.length c ∧ Toks N w x l ∧ ∀ t ∈ l, t.2.size ≤ maxLen := by
  unfold encToks at h
  generalize hn : l.length = n at h
  cases h with
  | nil hc hA =>
    have e := List.eq_nil_of_length_eq_zero hn
    exact ⟨_, _, rfl, .inl ⟨_, _, rfl, e, hc, hA⟩, fun t ht => by rw [e] at ht; cases ht⟩
  | @sl _ _ _ _ c b o _ u hc hm hb hu hr =>
    have h0 : ∀ j, j < l.length → M b (o + j * 2) ∧ (w.cell? ⟨b, o + j * 2, none⟩ = some (.int .i64 (l.getD j zt).1) ∧ w.cell? ⟨b, o + j * 2 + 1, none⟩ = some (.string (l.getD j zt).2)) ∧ (l.getD j zt).2.size ≤ maxLen := fun j hj => by
      obtain ⟨h1, h2, _⟩ := hu j 0 (by omega) (by omega)
      obtain ⟨g1, g2, _⟩ := hu j 1 (by omega) (by omega)
      have h3 := (hr j 0 (by omega) (by omega)).val.1
      obtain ⟨g3, g4⟩ := (hr j 1 (by omega) (by omega)).val
      rw [Nat.add_zero] at h1 h2
      rw [h3] at h2
      rw [g3] at g2
      exact ⟨h1, ⟨h2, g2⟩, of_decide_eq_true g4⟩
    rcases Nat.eq_zero_or_pos n with hz | hz
    · subst hz
      have e := List.eq_nil_of_length_eq_zero hn
      exact ⟨_, _, rfl, .inl ⟨_, _, rfl, e, hm, fun g => by cases g⟩, fun t ht => by rw [e] at ht; cases ht⟩
    · refine ⟨_, _, rfl, .inr ⟨b, o, c, by rw [hn], hM _ _ (h0 0 (by omega)).1, fun j hj => (h0 j hj).2.1, by omega, hm⟩, fun t ht => ?_⟩
      obtain ⟨j, hj, rfl⟩ := List.getElem_of_mem ht
      have := (h0 j hj).2.2
      rwa [List.getD_eq_getElem?_getD, List.getElem?_eq_getElem hj, Option.getD_some] at this
theorem own_rep {W : World} {β : Bt} {B : Nat} {v : Value} {s : List Tok} (h : W.ownsRow B TT 2 v s.length (cellsT s)) (hb : s.length ≤ 2000000) (hok : ∀ t ∈ s, t.2.size ≤ maxLen) : Rep view (fun b _ => B ≤ b ∧ b < W.heap.size) W β (encToks s) v := by
  obtain ⟨A, c, rfl, hT, hcs⟩ := own_slice h
  unfold encToks
  rcases Nat.eq_zero_or_pos s.length with h0 | h0
  · have e := List.eq_nil_of_length_eq_zero h0
    subst e
    rcases hT with ⟨A', c', he, _, hc, hA⟩ | ⟨b, off, cap, he, hbl, hc, hn, hm⟩
    · injection he with e1 e2 e3
      subst e1; subst e3
      exact .nil hc hA
    · injection he with e1 e2 e3
      subst e1; subst e3
      exact .nil hm (fun g => by cases g)
  · obtain ⟨g, rfl, hg1, hg2, hc⟩ := hcs.resolve_left (by omega)
    have hcap : s.length ≤ c ∧ c ≤ maxLen := by
      rcases hT with ⟨A', c', he, e, _⟩ | ⟨b, off, cap, he, hbl, hc, hn, hm⟩
      · rw [e] at h0; exact absurd h0 (Nat.lt_irrefl _)
      · injection he with e1 e2 e3
        subst e3
        exact ⟨hn, hm⟩
    refine .sl (fun i j => if j = 0 then .int .i64 (s.getD i zt).1 else .string (s.getD i zt).2) hcap.1 hcap.2 (by omega) (fun i j hi hj => ?_) (fun i j hi hj => ?_)
    · rw [Nat.zero_add]
      match j, hj with
      | 0, _ => exact ⟨⟨hg1, hg2⟩, (hc i hi).1, rfl⟩
      | 1, _ => exact ⟨⟨hg1, hg2⟩, (hc i hi).2, rfl⟩
    · match j, hj with
      | 0, _ => exact .v rfl
      | 1, _ =>
        have h1 : s.getD i zt ∈ s := by
          rw [List.getD_eq_getElem?_getD, List.getElem?_eq_getElem hi, Option.getD_some]
          exact List.getElem_mem _
        exact .v (decide_eq_true (hok _ h1))
theorem smallP_mem (k : Int) (s : List Tok) : ∀ i, i ≤ s.length → ∀ t ∈ smallP k s i, t ∈ s
  | 0, _, t, h => by cases h
  | i + 1, hi, t, h => by
    have ih := smallP_mem k s i (by omega)
    rw [smallP] at h
    split at h
    · rcases List.mem_append.1 h with h | h
      · exact ih t h
      · rw [List.mem_singleton.1 h, List.getD_eq_getElem?_getD, List.getElem?_eq_getElem (by omega), Option.getD_some]
        exact List.getElem_mem _
    · exact ih t h
theorem smallT_len (k : Int) (l : List Tok) : (smallT k l).length ≤ l.length := Nat.le_trans (smallP_len _ _ _) (onceP_len _ _)
theorem smallT_mem (k : Int) (l : List Tok) : ∀ t ∈ smallT k l, t ∈ l := fun t h => onceP_mem l _ (Nat.le_refl _) t (smallP_mem k _ _ (Nat.le_refl _) t h)
theorem smaller_sp (hML : ∀ w, E.G w → ML w) (kd : Int) (l : List Tok) (hl : l.length ≤ 2000000) : Sp (cx Try.prog mixed tyT_ok E) 17 [i64 kd, encToks l] (encToks (smallT kd l)) := by
  refine .inl ⟨⟨_, _, Try.func17, by kernel_rfl, rfl⟩, fun M β w vs hG hMG hM hlv hr hp hb => ?_⟩
  have hk := (hr 0 _ rfl).val.1
  obtain ⟨A, c, h1, hT, hok⟩ := rep_toks2 hM (hr 1 _ rfl)
  have evs : vs = #[.int .i64 kd, .slice A l.length c] := by
    apply Array.ext
    · simpa using hlv
    · intro i g1 g2
      match i, g2 with
      | 0, _ => simpa [Array.getD, g1] using hk
      | 1, _ => simpa [Array.getD, g1] using h1
  rw [h1] at hT
  rw [evs]
  have hGW : ∀ W, Below w.heap.size w W → E.G W := fun W hB => E.keep w W hG ⟨hB.os, hB.tape, hB.output, hB.size, fun k hk _ => hB.block k (Nat.lt_of_lt_of_le hk (E.gsz w hG))⟩
  have key := (callsIn_wide (n := 8)).1 (smaller_in kd A c l hl hok w hT (fun s A' c' W hB hs hk hT => idle_raw E hML s A' c' W (hGW W hB) hs hk hT) (fun s A' c' i W hB hs hk hT hi => needed_raw E hML kd s A' c' i W (hGW W hB) hs hk hT hi))
  refine key.mono ?_
  rintro e W' ⟨v, rfl, hrow, hBw⟩
  have hrep := own_rep (β := β) hrow (Nat.le_trans (smallT_len kd l) hl) (fun t ht => hok t (smallT_mem kd l t ht))
  exact ⟨v, fun b o => M b o ∨ (w.heap.size ≤ b ∧ b < W'.heap.size), β, rfl, Kp.of hBw _, fun _ _ _ => rfl, fun _ _ h => .inl h, fun b o h => h.elim .inl (fun g => .inr (.inr g)), hrep.mono (fun _ _ h => .inr h) (fun _ _ _ => rfl), ⟨fun l o hm => (by cases hm), fun l o l' o' b c c' hm => (by cases hm)⟩, fun b ⟨l, o, c, hm, _⟩ => (by cases hm)⟩
end
end sm
end Go.Proofs.Ytdmbodlkkdeaoaa
