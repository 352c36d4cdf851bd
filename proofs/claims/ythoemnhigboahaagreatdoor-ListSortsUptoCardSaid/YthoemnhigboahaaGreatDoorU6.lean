/-
  list.at, had.
-/
import Derived.Test.YthoemnhigboahaaGreatDoorU5
namespace Go.Proofs.YthoemnhigboahaaGreatDoor
open Go.RowKit
set_option linter.unusedVariables false
set_option linter.unusedSimpArgs false
theorem next_key {v x : Vu} {p : ByteArray} (hv : itemE v = 0) (hk : 97 ≤ (bAt p 0).toNat) (h6 : v.kind = 6) (h : ((∀ i, i < v.keys.length → ¬ v.keys.getD i ⟨#[]⟩ = p) ∧ x = .zero) ∨ ∃ m, m < v.keys.length ∧ v.keys.getD m ⟨#[]⟩ = p ∧ x = v.items.getD m .zero) : nextV v p = x := by
  unfold nextV followP stepR
  rw [if_pos hk, if_pos h6]
  rcases idxS_spec v.keys p (v.keys.length + 1) 0 (by omega) with ⟨h1, h2⟩ | ⟨m, h1, h2, h3⟩
  · rw [h1, if_pos (by decide)]
    rcases h with ⟨_, rfl⟩ | ⟨m, h4, h5, _⟩
    · rfl
    · exact absurd h5.symm (h2 m (Nat.zero_le _) h4)
  · rw [h1, if_neg (by omega)]
    rcases h with ⟨h4, _⟩ | ⟨m', h4, h5, rfl⟩
    · exact absurd h3.symm (h4 m h2)
    · have hs := (item_keys hv).1
      have hm : m' = m := by
        rcases Nat.lt_trichotomy m m' with h6 | h6 | h6
        · have := hs m m' h6 h4
          rw [h5, ← h3, strLt_irrefl] at this
          cases this
        · exact h6.symm
        · have := hs m' m h6 h2
          rw [h5, ← h3, strLt_irrefl] at this
          cases this
      rw [hm]
      rfl
theorem key_next {v x : Vu} {p : ByteArray} {n : Nat} (h : ((∀ i, i < n → ¬ v.keys.getD i ⟨#[]⟩ = p) ∧ x = .zero) ∨ ∃ m, m < n ∧ v.keys.getD m ⟨#[]⟩ = p ∧ x = v.items.getD m .zero) (hm : ¬ v.keys.getD n ⟨#[]⟩ = p) : ((∀ i, i < n + 1 → ¬ v.keys.getD i ⟨#[]⟩ = p) ∧ x = .zero) ∨ ∃ m, m < n + 1 ∧ v.keys.getD m ⟨#[]⟩ = p ∧ x = v.items.getD m .zero := by
  rcases h with ⟨h1, h2⟩ | ⟨m, h1, h2, h3⟩
  · refine .inl ⟨fun i hi => ?_, h2⟩
    rcases Nat.lt_or_ge i n with h4 | h4
    · exact h1 i h4
    · obtain rfl : i = n := by omega
      exact hm
  · exact .inr ⟨m, by omega, h2, h3⟩
theorem next_key0 {v : Vu} {p : ByteArray} (hk : 97 ≤ (bAt p 0).toNat) (h6 : ¬ v.kind = 6) : nextV v p = .zero := by
  unfold nextV followP stepR
  rw [if_pos hk, if_neg h6, if_pos (by decide)]
  rfl
theorem next_idx {v : Vu} {p : ByteArray} (hk : (bAt p 0).toNat < 97) (h : v.kind = 5 ∧ (numN p : Int) < v.items.length) : nextV v p = v.items.getD (numN p) .zero := by
  unfold nextV followP stepR
  rw [if_neg (by omega), if_pos h, if_neg (by omega)]
  rfl
theorem next_idx0 {v : Vu} {p : ByteArray} (hk : (bAt p 0).toNat < 97) (h : ¬ (v.kind = 5 ∧ (numN p : Int) < v.items.length)) : nextV v p = .zero := by
  have hs : stepR v p = -1 := by
    unfold stepR
    rw [if_neg (show ¬ 97 ≤ (bAt p 0).toNat by omega), if_neg h]
  unfold nextV followP
  rw [hs, if_pos (by decide)]
  rfl
theorem getD_lst (l : List ByteArray) (k : Nat) (h : k < l.length) : (l.map lstOf).getD k default = lstOf (l.getD k ⟨#[]⟩) := by simp [List.getD, h]
section
variable (E : Env)
set_option maxRecDepth 100000
set_option maxHeartbeats 4000000 in
theorem lAt_sp (v : Vu) (ps : List ByteArray) (hps : ∀ p ∈ ps, partOk false p = true) (hv : itemE v = 0) : Sp (cx Tryz.prog mixed tyT_ok E) 88 [encV v, encLs (ps.map lstOf)] (encV (atP ps v)) := by
  obtain ⟨o, ho⟩ : ∃ o, o = atP ps v := ⟨_, rfl⟩
  rw [← ho]
  obtain ⟨sl, hsl⟩ : ∃ sl, sl = ps.map lstOf := ⟨_, rfl⟩
  have hln : sl.length = ps.length := by rw [hsl]; simp
  have hget : ∀ k, k < ps.length → sl.getD k default = lstOf (ps.getD k ⟨#[]⟩) := fun k hk => by rw [hsl]; exact getD_lst ps k hk
  rw [← hsl]
  clear hsl
  refine Sp.body Tryz.func88 (by kernel_rfl) rfl (by kernel_rfl) (by kernel_rfl) (by kernel_rfl) ?_
  repeat' first
    | (refine facW_intro ?_; intro _)
    | refine Or.inl ?_
    | ((conv => whnf); first | (refine condW_dec ?_ ?_ <;> intro _) | refine condW_not ?_ | (refine condW_bool ?_ ?_ <;> intro _) | (refine nbC_t (fun _ => ?_) ?_) | (refine nbC_f ?_ (fun _ => ?_)))
    | refine And.intro (by first | omega | (simp only [Int.toNat_natCast] at *; omega) | (simp only [Nat.reduceAdd, Int.cast_ofNat_Int, true_and, and_true]; omega)  | kernel_rfl) ?_
    | refine RegW.run ?_
    | fail
  refine ⟨Nat × Vu, fun k => [(12, i64 k.1)], fun k => [(2, .cells [i64 k.2.kind, dB k.2.b, i64 k.2.i, dS k.2.text, .rc (.vals k.2.items), encStrs k.2.keys])], [4], fun k => [], fun k => k.1 ≤ sl.length ∧ itemE k.2 = 0 ∧ o = atP (ps.drop k.1) k.2, fun k => sl.length - k.1, ⟨(0, v), ⟨by omega, hv, ho⟩, ⟨[], ⟨by kernel_rfl, by kernel_rfl, by kernel_rfl, by kernel_rfl, by kernel_rfl, by kernel_rfl, by kernel_rfl⟩, (by repeat' first | exact trivial | exact rfl | kernel_rfl | exact Dle.of_eq rfl | exact MLe.of_eq rfl | exact Dle.i (by omega) | exact Dle.i (by simp only [Int.toNat_natCast] at *; omega) | exact Dle.nil | exact Dle.rc Dle.nil | exact Option.some_ne_none _ | exact Or.inl rfl | exact Or.inr trivial | omega | (simp only [Int.toNat_natCast] at *; omega) | (intro _ _ _ _; exact Dle.of_eq rfl) | refine And.intro ?_ ?_)⟩⟩, fun k hk => ?_⟩
  obtain ⟨h1, h2, h4⟩ := hk
  by_cases hlt : k.1 < sl.length
  · have hp := hps _ (getD_mem ps ⟨#[]⟩ k.1 (by omega))
    have hnx := next_ok (p := ps.getD k.1 ⟨#[]⟩) h2
    rw [atP_drop (by omega)] at h4
    have hst := hget k.1 (by omega)
    obtain ⟨hpp, hc⟩ := part_cases hp
    generalize ps.getD k.1 ⟨#[]⟩ = p at hp hnx h4 hst hpp hc
    have hne : ¬ p = ⟨#[]⟩ := fun e => by subst e; exact absurd hpp (by decide)
    have hlen := (item_keys h2).2
    rcases hc with ⟨hk1, hk2⟩ | ⟨hk1, hk2, hk3⟩
    · rw [lst_key hk1] at hst
      have e1 : (sl.getD ((k.1 : Int)).toNat default).key = p := by show (sl.getD k.1 default).key = p; rw [hst]
      by_cases h6 : k.2.kind = 6
      · have hlen := hlen h6
        repeat' first
          | (refine facW_intro ?_; intro _)
          | refine Or.inl ?_
          | ((conv => whnf); first | (refine condW_dec ?_ ?_ <;> intro _ <;> try (exfalso; omega)) | refine condW_not ?_ | (refine condW_bool ?_ ?_ <;> intro _ <;> try (exfalso; omega)) | (refine nbC_t (fun _ => ?_) ?_) | (refine nbC_f ?_ (fun _ => ?_)))
          | refine And.intro (by first | omega | (simp only [Int.toNat_natCast] at *; omega) | (simp only [Nat.reduceAdd, Int.cast_ofNat_Int, true_and, and_true]; omega)  | kernel_rfl) ?_
          | refine RegW.run ?_
          | fail
        all_goals try (exfalso; exact hne (e1.symm.trans (by assumption)))
        refine ⟨Nat × Vu, fun q => [(29, i64 q.1)], fun q => [(7, .cells [i64 q.2.kind, dB q.2.b, i64 q.2.i, dS q.2.text, .rc (.vals q.2.items), encStrs q.2.keys])], [2, 4, 6], fun q => [], fun q => q.1 ≤ k.2.keys.length ∧ (((∀ i, i < q.1 → ¬ k.2.keys.getD i ⟨#[]⟩ = p) ∧ q.2 = .zero) ∨ ∃ m, m < q.1 ∧ k.2.keys.getD m ⟨#[]⟩ = p ∧ q.2 = k.2.items.getD m .zero), fun q => k.2.keys.length - q.1, ⟨(0, .zero), ⟨Nat.zero_le _, .inl ⟨fun i hi => absurd hi (Nat.not_lt_zero _), rfl⟩⟩, ⟨[], ⟨by kernel_rfl, by kernel_rfl, by kernel_rfl, by kernel_rfl, by kernel_rfl, by kernel_rfl, by kernel_rfl⟩, (by repeat' first | exact trivial | exact rfl | kernel_rfl | exact Dle.of_eq rfl | exact MLe.of_eq rfl | exact Dle.i (by omega) | exact Dle.i (by simp only [Int.toNat_natCast] at *; omega) | exact Dle.nil | exact Dle.rc Dle.nil | exact Option.some_ne_none _ | exact Or.inl rfl | exact Or.inr trivial | omega | (simp only [Int.toNat_natCast] at *; omega) | (intro _ _ _ _; exact Dle.of_eq rfl) | refine And.intro ?_ ?_)⟩⟩, fun q hq => ?_⟩
        obtain ⟨g1, g2⟩ := hq
        repeat' first
          | (refine facW_intro ?_; intro _)
          | refine Or.inl ?_
          | ((conv => whnf); first | (refine condW_dec ?_ ?_ <;> intro _ <;> try (exfalso; omega)) | refine condW_not ?_ | (refine condW_bool ?_ ?_ <;> intro _ <;> try (exfalso; omega)) | (refine nbC_t (fun _ => ?_) ?_) | (refine nbC_f ?_ (fun _ => ?_)))
          | refine And.intro (by first | omega | (simp only [Int.toNat_natCast] at *; omega) | (simp only [Nat.reduceAdd, Int.cast_ofNat_Int, true_and, and_true]; omega)  | kernel_rfl) ?_
          | refine RegW.run ?_
          | fail
        all_goals try (exfalso; exact hne (e1.symm.trans (by assumption)))
        · rename_i hm
          have hm : k.2.keys.getD q.1 ⟨#[]⟩ = p := hm.trans e1
          exact ⟨(q.1 + 1, k.2.items.getD q.1 .zero), ⟨by dsimp only; omega, .inr ⟨q.1, Nat.lt_succ_self _, hm, rfl⟩⟩, ⟨[], ⟨by kernel_rfl, by kernel_rfl, by kernel_rfl, by kernel_rfl, by kernel_rfl, by kernel_rfl, by kernel_rfl⟩, (by repeat' first | exact trivial | exact rfl | kernel_rfl | exact Dle.of_eq rfl | exact MLe.of_eq rfl | exact Dle.i (by omega) | exact Dle.i (by simp only [Int.toNat_natCast] at *; omega) | exact Dle.nil | exact Dle.rc Dle.nil | exact Option.some_ne_none _ | exact Or.inl rfl | exact Or.inr trivial | omega | (simp only [Int.toNat_natCast] at *; omega) | (intro _ _ _ _; exact Dle.of_eq rfl) | refine And.intro ?_ ?_)⟩, by first | omega | (dsimp only; omega)⟩
        · rename_i hm
          have hm : ¬ k.2.keys.getD q.1 ⟨#[]⟩ = p := fun h => hm (h.trans e1.symm)
          exact ⟨(q.1 + 1, q.2), ⟨by dsimp only; omega, key_next g2 hm⟩, ⟨[], ⟨by kernel_rfl, by kernel_rfl, by kernel_rfl, by kernel_rfl, by kernel_rfl, by kernel_rfl, by kernel_rfl⟩, (by repeat' first | exact trivial | exact rfl | kernel_rfl | exact Dle.of_eq rfl | exact MLe.of_eq rfl | exact Dle.i (by omega) | exact Dle.i (by simp only [Int.toNat_natCast] at *; omega) | exact Dle.nil | exact Dle.rc Dle.nil | exact Option.some_ne_none _ | exact Or.inl rfl | exact Or.inr trivial | omega | (simp only [Int.toNat_natCast] at *; omega) | (intro _ _ _ _; exact Dle.of_eq rfl) | refine And.intro ?_ ?_)⟩, by first | omega | (dsimp only; omega)⟩
        · have hq : q.1 = k.2.keys.length := by omega
          rw [hq] at g2
          have hz := next_key h2 hk2 h6 g2
          rw [hz] at h4 hnx
          exact ⟨(k.1 + 1, q.2), ⟨by dsimp only; omega, hnx, h4⟩, ⟨[], ⟨by kernel_rfl, by kernel_rfl, by kernel_rfl, by kernel_rfl, by kernel_rfl, by kernel_rfl, by kernel_rfl⟩, (by repeat' first | exact trivial | exact rfl | kernel_rfl | exact Dle.of_eq rfl | exact MLe.of_eq rfl | exact Dle.i (by omega) | exact Dle.i (by simp only [Int.toNat_natCast] at *; omega) | exact Dle.nil | exact Dle.rc Dle.nil | exact Option.some_ne_none _ | exact Or.inl rfl | exact Or.inr trivial | omega | (simp only [Int.toNat_natCast] at *; omega) | (intro _ _ _ _; exact Dle.of_eq rfl) | refine And.intro ?_ ?_)⟩, by first | omega | (dsimp only; omega)⟩
      · have hz := next_key0 (v := k.2) hk2 h6
        rw [hz] at h4 hnx
        repeat' first
          | (refine facW_intro ?_; intro _)
          | refine Or.inl ?_
          | ((conv => whnf); first | (refine condW_dec ?_ ?_ <;> intro _ <;> try (exfalso; omega)) | refine condW_not ?_ | (refine condW_bool ?_ ?_ <;> intro _ <;> try (exfalso; omega)) | (refine nbC_t (fun _ => ?_) ?_) | (refine nbC_f ?_ (fun _ => ?_)))
          | refine And.intro (by first | omega | (simp only [Int.toNat_natCast] at *; omega) | (simp only [Nat.reduceAdd, Int.cast_ofNat_Int, true_and, and_true]; omega)  | kernel_rfl) ?_
          | refine RegW.run ?_
          | fail
        all_goals try (exfalso; exact hne (e1.symm.trans (by assumption)))
        all_goals exact ⟨(k.1 + 1, .zero), ⟨by dsimp only; omega, hnx, h4⟩, ⟨[], ⟨by kernel_rfl, by kernel_rfl, by kernel_rfl, by kernel_rfl, by kernel_rfl, by kernel_rfl, by kernel_rfl⟩, (by repeat' first | exact trivial | exact rfl | kernel_rfl | exact Dle.of_eq rfl | exact MLe.of_eq rfl | exact Dle.i (by omega) | exact Dle.i (by simp only [Int.toNat_natCast] at *; omega) | exact Dle.nil | exact Dle.rc Dle.nil | exact Option.some_ne_none _ | exact Or.inl rfl | exact Or.inr trivial | omega | (simp only [Int.toNat_natCast] at *; omega) | (intro _ _ _ _; exact Dle.of_eq rfl) | refine And.intro ?_ ?_)⟩, by first | omega | (dsimp only; omega)⟩
    · rw [lst_num hk1] at hst
      have e1 : (sl.getD ((k.1 : Int)).toNat default).key = ⟨#[]⟩ := by show (sl.getD k.1 default).key = _; rw [hst]
      have e2 : (sl.getD ((k.1 : Int)).toNat default).number = numN p := by show (sl.getD k.1 default).number = _; rw [hst]
      by_cases h5 : k.2.kind = 5 ∧ (numN p : Int) < k.2.items.length
      · have hz := next_idx hk3 h5
        rw [hz] at h4 hnx
        obtain ⟨h5, h5'⟩ := h5
        have en : k.2.items.getD (sl.getD ((k.1 : Int)).toNat default).number.toNat .zero = k.2.items.getD (numN p) .zero := by rw [e2]; rfl
        rw [← en] at h4 hnx
        repeat' first
          | (refine facW_intro ?_; intro _)
          | refine Or.inl ?_
          | ((conv => whnf); first | (refine condW_dec ?_ ?_ <;> intro _ <;> try (exfalso; omega)) | refine condW_not ?_ | (refine condW_bool ?_ ?_ <;> intro _ <;> try (exfalso; omega)) | (refine nbC_t (fun _ => ?_) ?_) | (refine nbC_f ?_ (fun _ => ?_)))
          | refine And.intro (by first | omega | (simp only [Int.toNat_natCast] at *; omega) | (simp only [Nat.reduceAdd, Int.cast_ofNat_Int, true_and, and_true]; omega)  | kernel_rfl) ?_
          | refine RegW.run ?_
          | fail
        all_goals try (exfalso; first | omega | (rename_i hx; exact hx e1) | (rename_i hx _; exact hx e1) | (rename_i hx _ _; exact hx e1))
        all_goals exact ⟨(k.1 + 1, k.2.items.getD (sl.getD ((k.1 : Int)).toNat default).number.toNat .zero), ⟨by dsimp only; omega, hnx, h4⟩, ⟨[], ⟨by kernel_rfl, by kernel_rfl, by kernel_rfl, by kernel_rfl, by kernel_rfl, by kernel_rfl, by kernel_rfl⟩, (by repeat' first | exact trivial | exact rfl | kernel_rfl | exact Dle.of_eq rfl | exact MLe.of_eq rfl | exact Dle.i (by omega) | exact Dle.i (by simp only [Int.toNat_natCast] at *; omega) | exact Dle.nil | exact Dle.rc Dle.nil | exact Option.some_ne_none _ | exact Or.inl rfl | exact Or.inr trivial | omega | (simp only [Int.toNat_natCast] at *; omega) | (intro _ _ _ _; exact Dle.of_eq rfl) | refine And.intro ?_ ?_)⟩, by first | omega | (dsimp only; omega)⟩
      · have hz := next_idx0 hk3 h5
        rw [hz] at h4 hnx
        repeat' first
          | (refine facW_intro ?_; intro _)
          | refine Or.inl ?_
          | ((conv => whnf); first | (refine condW_dec ?_ ?_ <;> intro _ <;> try (exfalso; omega)) | refine condW_not ?_ | (refine condW_bool ?_ ?_ <;> intro _ <;> try (exfalso; omega)) | (refine nbC_t (fun _ => ?_) ?_) | (refine nbC_f ?_ (fun _ => ?_)))
          | refine And.intro (by first | omega | (simp only [Int.toNat_natCast] at *; omega) | (simp only [Nat.reduceAdd, Int.cast_ofNat_Int, true_and, and_true]; omega)  | kernel_rfl) ?_
          | refine RegW.run ?_
          | fail
        all_goals try (exfalso; first | omega | (rename_i hx; exact hx e1) | (rename_i hx _; exact hx e1) | (rename_i hx _ _; exact hx e1))
        all_goals exact ⟨(k.1 + 1, .zero), ⟨by dsimp only; omega, hnx, h4⟩, ⟨[], ⟨by kernel_rfl, by kernel_rfl, by kernel_rfl, by kernel_rfl, by kernel_rfl, by kernel_rfl, by kernel_rfl⟩, (by repeat' first | exact trivial | exact rfl | kernel_rfl | exact Dle.of_eq rfl | exact MLe.of_eq rfl | exact Dle.i (by omega) | exact Dle.i (by simp only [Int.toNat_natCast] at *; omega) | exact Dle.nil | exact Dle.rc Dle.nil | exact Option.some_ne_none _ | exact Or.inl rfl | exact Or.inr trivial | omega | (simp only [Int.toNat_natCast] at *; omega) | (intro _ _ _ _; exact Dle.of_eq rfl) | refine And.intro ?_ ?_)⟩, by first | omega | (dsimp only; omega)⟩
  · have h5 := atP_end (l := ps) (k := k.1) (v := k.2) (by omega)
    rw [h5] at h4
    rw [h4]
    repeat' first
      | (refine facW_intro ?_; intro _)
      | refine Or.inl ?_
      | ((conv => whnf); first | (refine condW_dec ?_ ?_ <;> intro _ <;> try (exfalso; omega)) | refine condW_not ?_ | (refine condW_bool ?_ ?_ <;> intro _ <;> try (exfalso; omega)) | (refine nbC_t (fun _ => ?_) ?_) | (refine nbC_f ?_ (fun _ => ?_)))
      | refine And.intro (by first | omega | (simp only [Int.toNat_natCast] at *; omega) | (simp only [Nat.reduceAdd, Int.cast_ofNat_Int, true_and, and_true]; omega)  | kernel_rfl) ?_
      | refine RegW.run ?_
      | fail
    exact Dle.refl _ _
set_option maxHeartbeats 1000000 in
theorem had_sp (l : List Vu) (s : ByteArray) (hl : ∀ x ∈ l, itemE x = 0) (hs : s.size ≤ 1000000000) (hlen : l.length ≤ 1000000000) : Sp (cx Tryz.prog mixed tyT_ok E) 44 [.rc (.vals l), dS s] (.rc (.vals (l.map fun v => hasR v s))) := by
  have h1 := lSteps_sp E s hs
  have e : (if routeOk false s = true then (partsR s).map lstOf else []) = (if routeOk false s = true then partsR s else []).map lstOf := by split <;> rfl
  rw [e] at h1
  have ha := fun x (hx : x ∈ l) => lAt_sp E x _ (parts_ok (s := s)) (hl x hx)
  have hh : ∀ x, hasR x s = atP (if routeOk false s = true then partsR s else []) x := fun x => rfl
  generalize routeOk false s = b at h1 ha hh
  refine Sp.body Tryz.func44 (by kernel_rfl) rfl (by kernel_rfl) (by kernel_rfl) (by kernel_rfl) ?_
  repeat' first
    | (refine facW_intro ?_; intro _)
    | refine Or.inl ?_
    | ((conv => whnf); first | (refine condW_dec ?_ ?_ <;> intro _) | refine condW_not ?_ | (refine condW_bool ?_ ?_ <;> intro _) | (refine nbC_t (fun _ => ?_) ?_) | (refine nbC_f ?_ (fun _ => ?_)))
    | refine And.intro (by first | omega | (simp only [Int.toNat_natCast] at *; omega) | (simp only [Nat.reduceAdd, Int.cast_ofNat_Int, true_and, and_true]; omega)  | kernel_rfl) ?_
    | refine RegW.run ?_
    | refine ⟨_, h1, ?_⟩
    | fail
  refine ⟨Nat, fun k => [(17, i64 k), (7, .own 17 6 0 k)], fun k => [], [], fun k => [(17, 30, k, fun i j => (hasR (l.getD i .zero) s).cell j)], fun k => k ≤ l.length, fun k => l.length - k, ⟨0, by omega, ⟨[(17, none)], ⟨by kernel_rfl, by kernel_rfl, by kernel_rfl, by kernel_rfl, by kernel_rfl, by kernel_rfl, by kernel_rfl⟩, (by repeat' first | exact trivial | exact rfl | kernel_rfl | exact Dle.of_eq rfl | exact MLe.of_eq rfl | exact Dle.i (by omega) | exact Dle.i (by simp only [Int.toNat_natCast] at *; omega) | exact Dle.nil | exact Dle.rc Dle.nil | exact Option.some_ne_none _ | exact Or.inl rfl | exact Or.inr trivial | omega | (simp only [Int.toNat_natCast] at *; omega) | (intro _ _ _ _; exact Dle.of_eq rfl) | refine And.intro ?_ ?_)⟩⟩, fun k hk => ?_⟩
  have hk : k ≤ l.length := hk
  refine Or.inl ?_
  refine condW_dec ?_ ?_ <;> intro hlt
  · have hlt : k < l.length := by omega
    have hax := ha _ (getD_mem l .zero k hlt)
    rw [← hh] at hax
    repeat' first
      | (refine facW_intro ?_; intro _)
      | refine Or.inl ?_
      | ((conv => whnf); first | (refine condW_dec ?_ ?_ <;> intro _) | refine condW_not ?_ | (refine condW_bool ?_ ?_ <;> intro _) | (refine nbC_t (fun _ => ?_) ?_) | (refine nbC_f ?_ (fun _ => ?_)))
      | refine And.intro (by first | omega | (simp only [Int.toNat_natCast] at *; omega) | (simp only [Nat.reduceAdd, Int.cast_ofNat_Int, true_and, and_true]; omega)  | kernel_rfl) ?_
      | refine RegW.run ?_
      | refine ⟨_, hax, ?_⟩
      | fail
    exact ⟨k + 1, by omega, ⟨[(17, some 26)], ⟨by kernel_rfl, by kernel_rfl, by kernel_rfl, by kernel_rfl, by kernel_rfl, by kernel_rfl, by kernel_rfl⟩, (by repeat' first | exact trivial | exact rfl | kernel_rfl | exact Dle.of_eq rfl | exact MLe.of_eq rfl | exact Dle.i (by omega) | exact Dle.i (by simp only [Int.toNat_natCast] at *; omega) | exact Dle.nil | exact Dle.rc Dle.nil | exact Option.some_ne_none _ | exact Or.inl rfl | exact Or.inr trivial | omega | (simp only [Int.toNat_natCast] at *; omega) | (intro _ _ _ _; exact Dle.of_eq rfl) | (intro i j hi hj; exact row_val E (fun i => hasR (l.getD i .zero) s) k i j hi hj) | refine And.intro ?_ ?_)⟩, by first | omega | (dsimp only; omega)⟩
  · have e : k = l.length := by omega
    subst e
    repeat' first
      | (refine facW_intro ?_; intro _)
      | refine Or.inl ?_
      | ((conv => whnf); first | (refine condW_dec ?_ ?_ <;> intro _) | refine condW_not ?_ | (refine condW_bool ?_ ?_ <;> intro _) | (refine nbC_t (fun _ => ?_) ?_) | (refine nbC_f ?_ (fun _ => ?_)))
      | refine And.intro (by first | omega | (simp only [Int.toNat_natCast] at *; omega) | (simp only [Nat.reduceAdd, Int.cast_ofNat_Int, true_and, and_true]; omega)  | kernel_rfl) ?_
      | refine RegW.run ?_
      | fail
    exact Dle.rc (X := (cx Tryz.prog mixed tyT_ok E)) (Dle.sl (X := (cx Tryz.prog mixed tyT_ok E)) (show _ = (l.map fun v => hasR v s).length by simp) (fun i j hi hj => Dle.of_eq (cell_map (fun v => hasR v s) l i j hi).symm))
end
end Go.Proofs.YthoemnhigboahaaGreatDoor
