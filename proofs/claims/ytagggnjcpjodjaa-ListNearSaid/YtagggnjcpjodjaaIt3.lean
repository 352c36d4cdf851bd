/-
  Neighbours in an order: the plain law; list.Near.
-/
import Derived.Test.YtagggnjcpjodjaaIt2
import Derived.Test.YtagggnjcpjodjaaL2
namespace Go.Proofs.Ytagggnjcpjodjaa
open Go.RowKit Go.Sort
set_option linter.unusedVariables false
set_option linter.unusedSimpArgs false
namespace it
/-- The last place of an item ahead of a place; -1: none. -/
def plc (l : List Int) (x : Int) : Nat → Int
  | 0 => -1
  | k + 1 => if l.getD k 0 = x then (k : Int) else plc l x k
def negB (l : List Int) : Nat → Bool
  | 0 => false
  | k + 1 => negB l k || decide (l.getD k 0 < 0)
theorem plc_b (l : List Int) (x : Int) : ∀ k, -1 ≤ plc l x k ∧ plc l x k < k
  | 0 => by simp [plc]
  | k + 1 => by
    have := plc_b l x k
    rw [plc]
    split <;> omega
structure Nr where
  a : Int
  b : Int
  e : Int
open Classical in
noncomputable def nearE (l : List Int) (x : Int) : Nr :=
  if 2000 < l.length then ⟨0, 0, 4⟩ else if ¬ l.Nodup then ⟨0, 0, 6⟩ else if negB l l.length = true then ⟨0, 0, 2⟩ else if plc l x l.length < 0 then ⟨0, 0, 7⟩
  else ⟨if 0 < plc l x l.length then l.getD (plc l x l.length - 1).toNat 0 else -1, if plc l x l.length + 1 < l.length then l.getD (plc l x l.length + 1).toNat 0 else -1, 0⟩
def encN (r : Nr) : DD := .tup [i64 r.a, i64 r.b, i64 r.e]
/-- What has been seen. -/
def seenL (l : List Int) (k : Nat) : List (Value × DD) := (l.take k).map fun n => (.int .i64 n, dB true)
theorem seen_look {l : List Int} {k : Nat} (n : Int) (b : Bool) (h : b = true ↔ n ∈ l.take k) : Look (seenL l k) (.int .i64 n) (dB false) (b, dB b) := by
  cases b
  · refine .inr ⟨fun p hp e => ?_, rfl⟩
    obtain ⟨m, hm, rfl⟩ := List.mem_map.1 hp
    injection e with _ e
    subst e
    exact absurd (h.2 hm) (by decide)
  · exact .inl ⟨_, List.mem_map.2 ⟨n, h.1 rfl, rfl⟩, rfl, rfl⟩
theorem seen_next {l : List Int} {k : Nat} (hk : k < l.length) (h : ¬ l.getD k 0 ∈ l.take k) : mset (seenL l k) (.int .i64 (l.getD k 0)) (dB true) = seenL l (k + 1) := by
  unfold mset
  rw [if_neg]
  · unfold seenL
    have e : l.take (k + 1) = l.take k ++ [l.getD k 0] := by
      rw [List.take_add_one]
      simp [hk, List.getD]
    rw [e, List.map_append]
    rfl
  · rintro ⟨p, hp, e⟩
    obtain ⟨m, hm, rfl⟩ := List.mem_map.1 hp
    injection e with _ e
    exact h (e ▸ hm)
theorem nodup_next {l : List Int} {k : Nat} (hk : k < l.length) (h : (l.take k).Nodup) (hn : ¬ l.getD k 0 ∈ l.take k) : (l.take (k + 1)).Nodup := by
  have e : l.take (k + 1) = l.take k ++ [l.getD k 0] := by
    rw [List.take_add_one]
    simp [hk, List.getD]
  rw [e, List.nodup_append]
  refine ⟨h, by simp, fun a ha b hb => ?_⟩
  rw [List.mem_singleton.1 hb]
  rintro rfl
  exact hn ha
theorem nodup_no {l : List Int} {k : Nat} (hk : k < l.length) (hn : l.getD k 0 ∈ l.take k) : ¬ l.Nodup := by
  intro h
  have e : l = l.take k ++ l.drop k := (List.take_append_drop k l).symm
  rw [e, List.nodup_append] at h
  refine h.2.2 _ hn (l.getD k 0) ?_ rfl
  rw [List.mem_iff_getElem?]
  exact ⟨0, by simp [List.getD, hk]⟩
section
variable (E : Env)
set_option maxRecDepth 100000
set_option maxHeartbeats 4000000 in
theorem near_sp (l : List Int) (x : Int) (hl : l.length * 8 ≤ 140737488355328) (hB : ∀ k ∈ l, In64 k) : Sp (cx Try.prog mixed tyT_ok E) 9 [encI l, i64 x] (encN (nearE l x)) := by
  obtain ⟨r, hr⟩ : ∃ r, r = nearE l x := ⟨_, rfl⟩
  rw [← hr]
  unfold nearE at hr
  by_cases hL : 2000 < l.length
  · have hr := hr.trans (if_pos hL)
    subst hr
    refine Sp.body Try.func9 (by kernel_rfl) rfl (by kernel_rfl) (by kernel_rfl) (by kernel_rfl) ?_
    repeat' first
      | (refine facW_intro ?_; intro _)
      | refine Or.inl ?_
      | ((conv => whnf); first | (refine condW_dec ?_ ?_ <;> intro _ <;> try (exfalso; omega)) | refine condW_not ?_ | (refine condW_bool ?_ ?_ <;> intro _ <;> try (exfalso; omega)) | (refine nbC_t (fun _ => ?_) ?_) | (refine nbC_f ?_ (fun _ => ?_)))
      | refine And.intro (by first | omega | (simp only [Int.toNat_natCast] at *; omega) | (simp only [Nat.reduceAdd, Int.cast_ofNat_Int, true_and, and_true]; omega) | kernel_rfl) ?_
      | refine RegW.run ?_
      | fail
    all_goals first
      | exact Dle.refl _ _
      | trace_state
  · have hr := hr.trans (if_neg hL)
    refine Sp.body Try.func9 (by kernel_rfl) rfl (by kernel_rfl) (by kernel_rfl) (by kernel_rfl) ?_
    repeat' first
      | (refine facW_intro ?_; intro _)
      | refine Or.inl ?_
      | ((conv => whnf); first | (refine condW_dec ?_ ?_ <;> intro _ <;> try (exfalso; omega)) | refine condW_not ?_ | (refine condW_bool ?_ ?_ <;> intro _ <;> try (exfalso; omega)) | (refine nbC_t (fun _ => ?_) ?_) | (refine nbC_f ?_ (fun _ => ?_)))
      | refine And.intro (by first | omega | (simp only [Int.toNat_natCast] at *; omega) | (simp only [Nat.reduceAdd, Int.cast_ofNat_Int, true_and, and_true]; omega) | kernel_rfl) ?_
      | refine RegW.run ?_
      | fail
    refine ⟨Nat, fun k => [(18, i64 k), (8, i64 (plc l x k)), (9, dB (negB l k))], fun k => [(15, .map 126 (seenL l k))], [], fun k => [], fun k => k ≤ l.length ∧ (l.take k).Nodup, fun k => l.length - k, ⟨0, ⟨by omega, List.nodup_nil⟩, ⟨[], ⟨by kernel_rfl, by kernel_rfl, by kernel_rfl, by kernel_rfl, by kernel_rfl, by kernel_rfl, by kernel_rfl⟩, (by repeat' first | exact trivial | exact rfl | kernel_rfl | exact Dle.of_eq rfl | exact MLe.of_eq rfl | exact Dle.i (by omega) | exact Dle.i (by simp only [Int.toNat_natCast] at *; omega) | exact Dle.nil | exact Dle.rc Dle.nil | exact Option.some_ne_none _ | exact Or.inl rfl | exact Or.inr trivial | omega | (simp only [Int.toNat_natCast] at *; omega) | (intro _ _ _ _; exact Dle.of_eq rfl) | refine And.intro ?_ ?_)⟩⟩, fun k hk => ?_⟩
    obtain ⟨hk, hn⟩ := hk
    by_cases hlt : k < l.length
    · have hb64 : -9223372036854775808 ≤ l.getD ((k : Int)).toNat 0 ∧ l.getD ((k : Int)).toNat 0 ≤ 9223372036854775807 := hB (l.getD k 0) (by rw [List.mem_iff_getElem?]; exact ⟨k, by simp [List.getD, hlt]⟩)
      by_cases hm : l.getD k 0 ∈ l.take k
      · have hr2 := hr.trans (if_pos (nodup_no hlt hm))
        have h1 : Look (seenL l k) (.int .i64 (l.getD ((k : Int)).toNat 0)) (dB false) (true, dB true) := seen_look _ true ⟨fun _ => hm, fun _ => rfl⟩
        subst hr2
        repeat' first
          | (refine facW_intro ?_; intro _)
          | refine Or.inl ?_
          | ((conv => whnf); first | (refine condW_dec ?_ ?_ <;> intro _ <;> try (exfalso; omega)) | refine condW_not ?_ | (refine condW_bool ?_ ?_ <;> intro _ <;> try (exfalso; omega)) | (refine nbC_t (fun _ => ?_) ?_) | (refine nbC_f ?_ (fun _ => ?_)))
          | refine And.intro (by first | omega | (simp only [Int.toNat_natCast] at *; omega) | (simp only [Nat.reduceAdd, Int.cast_ofNat_Int, true_and, and_true]; omega) | kernel_rfl) ?_
          | refine RegW.run ?_
          | refine ⟨_, h1, ?_⟩
          | fail
        all_goals first
          | (exfalso; rename_i h; exact h rfl)
          | exact Dle.refl _ _
          | trace_state
      · have h1 : Look (seenL l k) (.int .i64 (l.getD ((k : Int)).toNat 0)) (dB false) (false, dB false) := seen_look _ false ⟨fun h => (by cases h), fun h => absurd h hm⟩
        have h2 := seen_next hlt hm
        have h3 := nodup_next hlt hn hm
        have e0 : l.getD ((k : Int)).toNat 0 = l.getD k 0 := rfl
        have p1 : l.getD k 0 = x → plc l x (k + 1) = k := fun h => by rw [plc, if_pos h]
        have p2 : ¬ l.getD k 0 = x → plc l x (k + 1) = plc l x k := fun h => by rw [plc, if_neg h]
        have n1 : negB l (k + 1) = (negB l k || decide (l.getD k 0 < 0)) := rfl
        have n2 : negB l k = true → negB l (k + 1) = true := fun h => by rw [n1, h]; rfl
        have n5 : negB l k = false → negB l (k + 1) = decide (l.getD ((k : Int)).toNat 0 < 0) := fun h => by rw [n1, h, Bool.false_or]; rfl
        have n3 : l.getD k 0 < 0 → negB l (k + 1) = true := fun h => by rw [n1, decide_eq_true h, Bool.or_true]
        have n4 : ¬ l.getD k 0 < 0 → negB l (k + 1) = negB l k := fun h => by rw [n1, decide_eq_false h, Bool.or_false]
        repeat' first
          | (refine facW_intro ?_; intro _)
          | refine Or.inl ?_
          | ((conv => whnf); first | (refine condW_dec ?_ ?_ <;> intro _ <;> try (exfalso; omega)) | refine condW_not ?_ | (refine condW_bool ?_ ?_ <;> intro _ <;> try (exfalso; omega)) | (refine nbC_t (fun _ => ?_) ?_) | (refine nbC_f ?_ (fun _ => ?_)))
          | refine And.intro (by first | omega | (simp only [Int.toNat_natCast] at *; omega) | (simp only [Nat.reduceAdd, Int.cast_ofNat_Int, true_and, and_true]; omega) | kernel_rfl) ?_
          | refine RegW.run ?_
          | refine ⟨_, h1, ?_⟩
          | fail
        all_goals first
          | (exfalso; rename_i h; exact h rfl)
          | exact ⟨k + 1, ⟨by omega, h3⟩, ⟨[], ⟨by kernel_rfl, by kernel_rfl, by kernel_rfl, by kernel_rfl, by kernel_rfl, by kernel_rfl, by kernel_rfl⟩, (by repeat' first | (first | exact MLe.of_eq h2 | exact Dle.i (by first | (rw [p1 (by omega)]; done) | (rw [p2 (by omega)]; done)) | exact Dle.bo (n5 (by assumption)).symm | exact Dle.bo (by first | (rw [n2 (by assumption)]; done) | (rw [n3 (by omega)]; done) | (rw [n4 (by omega)]; done) | (rw [n4 (by omega)]; simp_all; done))) | exact trivial | exact rfl | kernel_rfl | exact Dle.of_eq rfl | exact MLe.of_eq rfl | exact Dle.i (by omega) | exact Dle.i (by simp only [Int.toNat_natCast] at *; omega) | exact Dle.nil | exact Dle.rc Dle.nil | exact Option.some_ne_none _ | exact Or.inl rfl | exact Or.inr trivial | omega | (simp only [Int.toNat_natCast] at *; omega) | (intro _ _ _ _; exact Dle.of_eq rfl) | refine And.intro ?_ ?_)⟩, by first | omega | (dsimp only; omega)⟩
          | trace_state
    · obtain rfl : k = l.length := by omega
      rw [List.take_length] at hn
      have hr := hr.trans (if_neg (fun h => h hn))
      have hb := plc_b l x l.length
      cases hnb : negB l l.length <;> rw [hnb] at hr
      · have hr := hr.trans (if_neg (by decide))
        by_cases hp : plc l x l.length < 0
        · have hr := hr.trans (if_pos hp)
          subst hr
          repeat' first
            | (refine facW_intro ?_; intro _)
            | refine Or.inl ?_
            | ((conv => whnf); first | (refine condW_dec ?_ ?_ <;> intro _ <;> try (exfalso; omega)) | refine condW_not ?_ | (refine condW_bool ?_ ?_ <;> intro _ <;> try (exfalso; omega)) | (refine nbC_t (fun _ => ?_) ?_) | (refine nbC_f ?_ (fun _ => ?_)))
            | refine And.intro (by first | omega | (simp only [Int.toNat_natCast] at *; omega) | (simp only [Nat.reduceAdd, Int.cast_ofNat_Int, true_and, and_true]; omega) | kernel_rfl) ?_
            | refine RegW.run ?_
            | fail
          all_goals first
            | (exfalso; omega)
            | (exfalso; have h : negB l l.length = true := (by assumption); rw [hnb] at h; exact absurd h (by decide))
            | exact Dle.refl _ _
            | trace_state
        · have hr := hr.trans (if_neg hp)
          subst hr
          by_cases hp0 : 0 < plc l x l.length <;> by_cases hp1 : plc l x l.length + 1 < l.length
          all_goals
            simp only [hp0, hp1, if_true, if_false]
            repeat' first
              | (refine facW_intro ?_; intro _)
              | refine Or.inl ?_
              | ((conv => whnf); first | (refine condW_dec ?_ ?_ <;> intro _ <;> try (exfalso; omega)) | refine condW_not ?_ | (refine condW_bool ?_ ?_ <;> intro _ <;> try (exfalso; omega)) | (refine nbC_t (fun _ => ?_) ?_) | (refine nbC_f ?_ (fun _ => ?_)))
              | refine And.intro (by first | omega | (simp only [Int.toNat_natCast] at *; omega) | (simp only [Nat.reduceAdd, Int.cast_ofNat_Int, true_and, and_true]; omega) | kernel_rfl) ?_
              | refine RegW.run ?_
              | fail
            all_goals first
              | (exfalso; omega)
              | (exfalso; have h : negB l l.length = true := (by assumption); rw [hnb] at h; exact absurd h (by decide))
              | exact Dle.refl _ _
              | trace_state
      · have hr := hr.trans (if_pos rfl)
        subst hr
        repeat' first
          | (refine facW_intro ?_; intro _)
          | refine Or.inl ?_
          | ((conv => whnf); first | (refine condW_dec ?_ ?_ <;> intro _ <;> try (exfalso; omega)) | refine condW_not ?_ | (refine condW_bool ?_ ?_ <;> intro _ <;> try (exfalso; omega)) | (refine nbC_t (fun _ => ?_) ?_) | (refine nbC_f ?_ (fun _ => ?_)))
          | refine And.intro (by first | omega | (simp only [Int.toNat_natCast] at *; omega) | (simp only [Nat.reduceAdd, Int.cast_ofNat_Int, true_and, and_true]; omega) | kernel_rfl) ?_
          | refine RegW.run ?_
          | fail
        all_goals first
          | (exfalso; have h : negB l l.length = false := (by assumption); rw [hnb] at h; exact absurd h (by decide))
          | exact Dle.refl _ _
          | trace_state
end
end it
end Go.Proofs.Ytagggnjcpjodjaa
