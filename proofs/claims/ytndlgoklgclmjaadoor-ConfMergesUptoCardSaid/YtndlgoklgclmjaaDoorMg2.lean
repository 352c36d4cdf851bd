/-
  The reference's merge.
-/
import Derived.Test.YtndlgoklgclmjaaDoorMg1
import Derived.Test.YtndlgoklgclmjaaDoorTo1
namespace Go.Proofs.YtndlgoklgclmjaaDoor
open Go.RowKit
set_option linter.unusedVariables false
set_option linter.unusedSimpArgs false
namespace mg
open cr se ap so tab
theorem key_size {v : Vu} (hf : faultE v = 0) {i : Nat} (hi : i < v.keys.length) : (v.keys.getD i ⟨#[]⟩).size ≤ maxLen := by
  have h1 := (keysFrom_ok (v.keys.length + 1) v.keys 0 (by omega) (head_ok (fault_head hf).1).2 i (Nat.zero_le _) hi).1
  unfold keyOkB at h1
  simp only [Bool.and_eq_true, decide_eq_true_eq] at h1
  have := h1.1.1.2
  unfold maxLen
  omega
theorem pset_len (pm : List (ByteArray × Vu)) (k : ByteArray) (v : Vu) : (pset pm k v).length ≤ pm.length + 1 := by
  unfold pset
  split
  · rw [List.length_map]; omega
  · rw [List.length_append]; exact Nat.le_refl _
theorem pset_size {pm : List (ByteArray × Vu)} {k : ByteArray} {v : Vu} (h : ∀ p ∈ pm, p.1.size ≤ maxLen) (hk : k.size ≤ maxLen) : ∀ p ∈ pset pm k v, p.1.size ≤ maxLen := fun p hp => by
  unfold pset at hp
  split at hp
  · obtain ⟨q, hq, rfl⟩ := List.mem_map.1 hp
    by_cases e : q.1 = k
    · rw [if_pos e]; exact hk
    · rw [if_neg e]; exact h q hq
  · rw [List.mem_append, List.mem_singleton] at hp
    rcases hp with hp | rfl
    · exact h p hp
    · exact hk
theorem zip_len (far : Vu) (n : Nat) : (zipT far n).length = n := by unfold zipT; rw [List.length_map, List.length_range]
section
variable (E : Env)
set_option maxRecDepth 100000
set_option maxHeartbeats 8000000 in
theorem merged_sp : ∀ (N : Nat) (v far : Vu), SizeOf.sizeOf v < N → faultE v = 0 → faultE far = 0 → v.wt ≤ 100000000 → far.wt ≤ 100000000 → Sp (cx Tryd.prog mixed tyT_ok E) 11 [encV v, encV far] (encV (mergeV v far))
  | 0, v, far, h, _, _, _, _ => by omega
  | N + 1, v, far, h, hv, hfa, hw, hwf => by
    have ih := fun (x y : Vu) (hx : x ∈ v.items) h1 h2 h3 h4 => merged_sp N x y (by have := items_lt v x hx; omega) h1 h2 h3 h4
    have hkw := keys_le_wt v
    have hkf := keys_le_wt far
    have hfs := fault_keys hfa
    have hvs := fault_keys hv
    rw [mergeV_eq]
    by_cases hc : v.kind ≠ 6 ∨ far.kind ≠ 6
    · rw [if_pos hc]
      refine Sp.body Tryd.func11 (by kernel_rfl) rfl (by kernel_rfl) (by kernel_rfl) (by kernel_rfl) ?_
      repeat' first
        | (refine codeW_cond rfl ?_; first | (refine condW_dec ?_ ?_ <;> intro _ <;> try (exfalso; omega)) | refine condW_not ?_ | (refine condW_bool ?_ ?_ <;> intro _ <;> try (exfalso; omega)))
        | (refine facW_intro ?_; intro _)
        | refine Or.inl ?_
        | ((conv => whnf); first | (refine condW_dec ?_ ?_ <;> intro _ <;> try (exfalso; omega)) | refine condW_not ?_ | (refine condW_bool ?_ ?_ <;> intro _ <;> try (exfalso; omega)) | (refine nbC_t (fun _ => ?_) ?_) | (refine nbC_f ?_ (fun _ => ?_)))
        | refine And.intro (by first | omega | (simp only [Int.toNat_natCast] at *; omega) | (simp only [Nat.reduceAdd, Int.cast_ofNat_Int, true_and, and_true]; omega)  | (simp only [cx, view, Nat.reduceAdd, Int.toNat_natCast]; omega) | kernel_rfl) ?_
        | refine RegW.run ?_
        | fail
      all_goals first
        | (exfalso; omega)
        | exact Dle.refl _ _
        | trace_state
    · rw [if_neg hc]
      have hl1 := hvs.2 (by omega)
      have hl2 := hfs.2 (by omega)
      have hT0 := zip_tab (form6 hfa (by omega)) hl2 hfs.1
      have hF0 := far_zip hfs.1
      refine Sp.body Tryd.func11 (by kernel_rfl) rfl (by kernel_rfl) (by kernel_rfl) (by kernel_rfl) ?_
      repeat' first
        | (refine codeW_cond rfl ?_; first | (refine condW_dec ?_ ?_ <;> intro _ <;> try (exfalso; omega)) | refine condW_not ?_ | (refine condW_bool ?_ ?_ <;> intro _ <;> try (exfalso; omega)))
        | (refine facW_intro ?_; intro _)
        | refine Or.inl ?_
        | ((conv => whnf); first | (refine condW_dec ?_ ?_ <;> intro _ <;> try (exfalso; omega)) | refine condW_not ?_ | (refine condW_bool ?_ ?_ <;> intro _ <;> try (exfalso; omega)) | (refine nbC_t (fun _ => ?_) ?_) | (refine nbC_f ?_ (fun _ => ?_)))
        | refine And.intro (by first | omega | (simp only [Int.toNat_natCast] at *; omega) | (simp only [Nat.reduceAdd, Int.cast_ofNat_Int, true_and, and_true]; omega)  | (simp only [cx, view, Nat.reduceAdd, Int.toNat_natCast]; omega) | kernel_rfl) ?_
        | refine RegW.run ?_
        | fail
      all_goals first
        | (exfalso; omega)
        | skip
      refine ⟨Nat, fun k => [(25, i64 k)], fun k => [(21, .map 38 (esOf (zipT far k)))], [2, 3, 4], fun k => [], fun k => k ≤ far.keys.length, fun k => far.keys.length - k, ⟨0, Nat.zero_le _, ⟨[], ⟨by kernel_rfl, by kernel_rfl, by kernel_rfl, by kernel_rfl, by kernel_rfl, by kernel_rfl, by kernel_rfl⟩, (by repeat' first | exact trivial | exact rfl | kernel_rfl | exact Dle.of_eq rfl | exact MLe.of_eq rfl | exact Dle.i (by omega) | exact Dle.i (by simp only [Int.toNat_natCast] at *; omega) | exact Dle.nil | exact Dle.rc Dle.nil | exact Option.some_ne_none _ | exact Or.inl rfl | exact Or.inr trivial | omega | (simp only [Int.toNat_natCast] at *; omega) | (intro _ _ _ _; exact Dle.of_eq rfl) | refine And.intro ?_ ?_)⟩⟩, fun k hk => ?_⟩
      have hk : k ≤ far.keys.length := hk
      by_cases hlt : k < far.keys.length
      · have hit : k < far.items.length := by omega
        have hml : MLe (cx Tryd.prog mixed tyT_ok E) (mset (esOf (zipT far k)) (.string (far.keys.getD k ⟨#[]⟩)) (encV (far.items.getD k .zero))) (esOf (zipT far (k + 1))) := MLe.of_eq (by rw [mset_es, zip_step hfs.1 hlt])
        repeat' first
          | (refine codeW_cond rfl ?_; first | (refine condW_dec ?_ ?_ <;> intro _ <;> try (exfalso; omega)) | refine condW_not ?_ | (refine condW_bool ?_ ?_ <;> intro _ <;> try (exfalso; omega)))
          | (refine facW_intro ?_; intro _)
          | refine Or.inl ?_
          | ((conv => whnf); first | (refine condW_dec ?_ ?_ <;> intro _ <;> try (exfalso; omega)) | refine condW_not ?_ | (refine condW_bool ?_ ?_ <;> intro _ <;> try (exfalso; omega)) | (refine nbC_t (fun _ => ?_) ?_) | (refine nbC_f ?_ (fun _ => ?_)))
          | refine And.intro (by first | omega | (simp only [Int.toNat_natCast] at *; omega) | (simp only [Nat.reduceAdd, Int.cast_ofNat_Int, true_and, and_true]; omega)  | (simp only [cx, view, Nat.reduceAdd, Int.toNat_natCast]; omega) | kernel_rfl) ?_
          | refine RegW.run ?_
          | fail
        all_goals first
          | (exfalso; omega)
          | exact ⟨k + 1, by omega, ⟨[], ⟨by kernel_rfl, by kernel_rfl, by kernel_rfl, by kernel_rfl, by kernel_rfl, by kernel_rfl, by kernel_rfl⟩, (by repeat' first | (exact hml) | exact trivial | exact rfl | kernel_rfl | exact Dle.of_eq rfl | exact MLe.of_eq rfl | exact Dle.i (by omega) | exact Dle.i (by simp only [Int.toNat_natCast] at *; omega) | exact Dle.nil | exact Dle.rc Dle.nil | exact Option.some_ne_none _ | exact Or.inl rfl | exact Or.inr trivial | omega | (simp only [Int.toNat_natCast] at *; omega) | (intro _ _ _ _; exact Dle.of_eq rfl) | refine And.intro ?_ ?_)⟩, by first | omega | (dsimp only; omega)⟩
          | trace_state
      · obtain rfl : k = far.keys.length := by omega
        repeat' first
          | (refine codeW_cond rfl ?_; first | (refine condW_dec ?_ ?_ <;> intro _ <;> try (exfalso; omega)) | refine condW_not ?_ | (refine condW_bool ?_ ?_ <;> intro _ <;> try (exfalso; omega)))
          | (refine facW_intro ?_; intro _)
          | refine Or.inl ?_
          | ((conv => whnf); first | (refine condW_dec ?_ ?_ <;> intro _ <;> try (exfalso; omega)) | refine condW_not ?_ | (refine condW_bool ?_ ?_ <;> intro _ <;> try (exfalso; omega)) | (refine nbC_t (fun _ => ?_) ?_) | (refine nbC_f ?_ (fun _ => ?_)))
          | refine And.intro (by first | omega | (simp only [Int.toNat_natCast] at *; omega) | (simp only [Nat.reduceAdd, Int.cast_ofNat_Int, true_and, and_true]; omega)  | (simp only [cx, view, Nat.reduceAdd, Int.toNat_natCast]; omega) | kernel_rfl) ?_
          | refine RegW.run ?_
          | fail
        all_goals first
          | (exfalso; omega)
          | skip
        refine ⟨Nat × List (ByteArray × Vu) × Vu, fun k => [(41, i64 k.1)], fun k => [(21, .map 38 (esOf k.2.1))], [2, 3, 4], fun k => [], fun k => k.1 ≤ v.keys.length ∧ TabOf k.2.2 k.2.1 ∧ k.2.1.length ≤ far.keys.length + k.1 ∧ (∀ p ∈ k.2.1, p.1.size ≤ maxLen) ∧ (∀ j, k.1 ≤ j → j < v.keys.length → FarAt far k.2.1 (v.keys.getD j ⟨#[]⟩)) ∧ mergeL v.items v.keys far far = mergeL (v.items.drop k.1) (v.keys.drop k.1) far k.2.2, fun k => v.keys.length - k.1, ⟨(0, zipT far far.keys.length, far), ⟨Nat.zero_le _, hT0, Nat.le_of_eq (zip_len _ _), fun p hp => (by obtain ⟨i, hi, rfl⟩ := zip_mem.1 hp; exact key_size hfa hi), fun j _ _ => hF0 _, rfl⟩, ⟨[], ⟨by kernel_rfl, by kernel_rfl, by kernel_rfl, by kernel_rfl, by kernel_rfl, by kernel_rfl, by kernel_rfl⟩, (by repeat' first | exact trivial | exact rfl | kernel_rfl | exact Dle.of_eq rfl | exact MLe.of_eq rfl | exact Dle.i (by omega) | exact Dle.i (by simp only [Int.toNat_natCast] at *; omega) | exact Dle.nil | exact Dle.rc Dle.nil | exact Option.some_ne_none _ | exact Or.inl rfl | exact Or.inr trivial | omega | (simp only [Int.toNat_natCast] at *; omega) | (intro _ _ _ _; exact Dle.of_eq rfl) | refine And.intro ?_ ?_)⟩⟩, fun k hk => ?_⟩
        obtain ⟨hk1, hkT, hkn, hks, hkF, hk4⟩ := hk
        by_cases hlt : k.1 < v.keys.length
        · have hit : k.1 < v.items.length := by omega
          rw [mergeL_drop hit hlt] at hk4
          have hF := hkF k.1 (Nat.le_refl _) hlt
          have hxm := getD_mem v.items .zero k.1 hit
          have hxf := fault_mem hv hit
          have hxw := wt_item v k.1 hit
          have hksz := key_size hv hlt
          have hne : ∀ j, k.1 + 1 ≤ j → j < v.keys.length → v.keys.getD j ⟨#[]⟩ ≠ v.keys.getD k.1 ⟨#[]⟩ := fun j hj hjl e => by
            have := hvs.1 k.1 j (by omega) hjl
            rw [e, strLt_irrefl] at this
            cases this
          cases hh : hasK far (v.keys.getD k.1 ⟨#[]⟩) with
          | true =>
            rw [hh, if_pos rfl] at hk4
            have hm := has_lt hh
            have hlk : Look (esOf k.2.1) (.string (v.keys.getD k.1 ⟨#[]⟩)) (zeroD (((cx Tryd.prog mixed tyT_ok E)).T 25)) (true, encV (far.items.getD (findK far (v.keys.getD k.1 ⟨#[]⟩)) .zero)) := .inl ⟨_, List.mem_map.2 ⟨_, hF.1 hh, rfl⟩, rfl, rfl⟩
            have ih1 := ih (v.items.getD k.1 .zero) (far.items.getD (findK far (v.keys.getD k.1 ⟨#[]⟩)) .zero) hxm hxf (fault_mem hfa (by omega)) (by omega) (by have := wt_item far (findK far (v.keys.getD k.1 ⟨#[]⟩)) (by omega); omega)
            generalize far.items.getD (findK far (v.keys.getD k.1 ⟨#[]⟩)) .zero = x0 at *
            generalize mergeV (v.items.getD k.1 .zero) x0 = y at *
            have hml : MLe (cx Tryd.prog mixed tyT_ok E) (mset (esOf k.2.1) (.string (v.keys.getD k.1 ⟨#[]⟩)) (encV y)) (esOf (pset k.2.1 (v.keys.getD k.1 ⟨#[]⟩) y)) := MLe.of_eq (mset_es _ _ _)
            have hpl := pset_len k.2.1 (v.keys.getD k.1 ⟨#[]⟩) y
            have hT2 := tab_put hkT (v.keys.getD k.1 ⟨#[]⟩) y
            repeat' first
              | (refine codeW_cond rfl ?_; first | (refine condW_dec ?_ ?_ <;> intro _ <;> try (exfalso; first | omega | (rename_i h; cases h; done))) | refine condW_not ?_ | (refine condW_bool ?_ ?_ <;> intro _ <;> try (exfalso; first | omega | (rename_i h; cases h; done))))
              | (refine facW_intro ?_; intro _)
              | refine Or.inl ?_
              | ((conv => whnf); first | (refine condW_dec ?_ ?_ <;> intro _ <;> try (exfalso; first | omega | (rename_i h; cases h; done))) | refine condW_not ?_ | (refine condW_bool ?_ ?_ <;> intro _ <;> try (exfalso; first | omega | (rename_i h; cases h; done))) | (refine nbC_t (fun _ => ?_) ?_) | (refine nbC_f ?_ (fun _ => ?_)))
              | refine And.intro (by first | omega | (simp only [Int.toNat_natCast] at *; omega) | (simp only [Nat.reduceAdd, Int.cast_ofNat_Int, true_and, and_true]; omega)  | (simp only [cx, view, Nat.reduceAdd, Int.toNat_natCast]; omega) | kernel_rfl) ?_
              | refine RegW.run ?_
              | refine ⟨_, hlk, ?_⟩
              | refine ⟨_, ih1, ?_⟩
              | fail
            all_goals first
              | (exfalso; omega)
              | exact ⟨(k.1 + 1, pset k.2.1 (v.keys.getD k.1 ⟨#[]⟩) y, putK k.2.2 (v.keys.getD k.1 ⟨#[]⟩) y), ⟨by dsimp only; omega, hT2, by dsimp only; omega, pset_size hks hksz, fun j hj hjl => far_set (hkF j (by dsimp only at hj; omega) hjl) (hne j hj hjl), hk4⟩, ⟨[], ⟨by kernel_rfl, by kernel_rfl, by kernel_rfl, by kernel_rfl, by kernel_rfl, by kernel_rfl, by kernel_rfl⟩, (by repeat' first | (exact hml) | exact trivial | exact rfl | kernel_rfl | exact Dle.of_eq rfl | exact MLe.of_eq rfl | exact Dle.i (by omega) | exact Dle.i (by simp only [Int.toNat_natCast] at *; omega) | exact Dle.nil | exact Dle.rc Dle.nil | exact Option.some_ne_none _ | exact Or.inl rfl | exact Or.inr trivial | omega | (simp only [Int.toNat_natCast] at *; omega) | (intro _ _ _ _; exact Dle.of_eq rfl) | refine And.intro ?_ ?_)⟩, by first | omega | (dsimp only; omega)⟩
              | trace_state
          | false =>
            rw [hh, if_neg (by decide)] at hk4
            have hlk : Look (esOf k.2.1) (.string (v.keys.getD k.1 ⟨#[]⟩)) (zeroD (((cx Tryd.prog mixed tyT_ok E)).T 25)) (false, zeroD (((cx Tryd.prog mixed tyT_ok E)).T 25)) := .inr ⟨fun p hp e => by
              obtain ⟨q, hq, rfl⟩ := List.mem_map.1 hp
              injection e with e
              exact hF.2 hh q hq e, rfl⟩
            have hml : MLe (cx Tryd.prog mixed tyT_ok E) (mset (esOf k.2.1) (.string (v.keys.getD k.1 ⟨#[]⟩)) (encV (v.items.getD k.1 .zero))) (esOf (pset k.2.1 (v.keys.getD k.1 ⟨#[]⟩) (v.items.getD k.1 .zero))) := MLe.of_eq (mset_es _ _ _)
            have hpl := pset_len k.2.1 (v.keys.getD k.1 ⟨#[]⟩) (v.items.getD k.1 .zero)
            have hT2 := tab_put hkT (v.keys.getD k.1 ⟨#[]⟩) (v.items.getD k.1 .zero)
            repeat' first
              | (refine codeW_cond rfl ?_; first | (refine condW_dec ?_ ?_ <;> intro _ <;> try (exfalso; first | omega | (rename_i h; cases h; done))) | refine condW_not ?_ | (refine condW_bool ?_ ?_ <;> intro _ <;> try (exfalso; first | omega | (rename_i h; cases h; done))))
              | (refine facW_intro ?_; intro _)
              | refine Or.inl ?_
              | ((conv => whnf); first | (refine condW_dec ?_ ?_ <;> intro _ <;> try (exfalso; first | omega | (rename_i h; cases h; done))) | refine condW_not ?_ | (refine condW_bool ?_ ?_ <;> intro _ <;> try (exfalso; first | omega | (rename_i h; cases h; done))) | (refine nbC_t (fun _ => ?_) ?_) | (refine nbC_f ?_ (fun _ => ?_)))
              | refine And.intro (by first | omega | (simp only [Int.toNat_natCast] at *; omega) | (simp only [Nat.reduceAdd, Int.cast_ofNat_Int, true_and, and_true]; omega)  | (simp only [cx, view, Nat.reduceAdd, Int.toNat_natCast]; omega) | kernel_rfl) ?_
              | refine RegW.run ?_
              | refine ⟨_, hlk, ?_⟩
              | fail
            all_goals first
              | (exfalso; omega)
              | exact ⟨(k.1 + 1, pset k.2.1 (v.keys.getD k.1 ⟨#[]⟩) (v.items.getD k.1 .zero), putK k.2.2 (v.keys.getD k.1 ⟨#[]⟩) (v.items.getD k.1 .zero)), ⟨by dsimp only; omega, hT2, by dsimp only; omega, pset_size hks hksz, fun j hj hjl => far_set (hkF j (by dsimp only at hj; omega) hjl) (hne j hj hjl), hk4⟩, ⟨[], ⟨by kernel_rfl, by kernel_rfl, by kernel_rfl, by kernel_rfl, by kernel_rfl, by kernel_rfl, by kernel_rfl⟩, (by repeat' first | (exact hml) | exact trivial | exact rfl | kernel_rfl | exact Dle.of_eq rfl | exact MLe.of_eq rfl | exact Dle.i (by omega) | exact Dle.i (by simp only [Int.toNat_natCast] at *; omega) | exact Dle.nil | exact Dle.rc Dle.nil | exact Option.some_ne_none _ | exact Or.inl rfl | exact Or.inr trivial | omega | (simp only [Int.toNat_natCast] at *; omega) | (intro _ _ _ _; exact Dle.of_eq rfl) | refine And.intro ?_ ?_)⟩, by first | omega | (dsimp only; omega)⟩
              | trace_state
        · rw [mergeL_end (by omega)] at hk4
          rw [hk4]
          have htb := tableOf_l E 21 k.2.1 k.2.2 hkT (by omega) hks
          repeat' first
            | refine Or.inr ⟨_, _, _, htb, by kernel_rfl, (by repeat' first | exact trivial | exact rfl | kernel_rfl | exact Dle.of_eq rfl | exact MLe.of_eq rfl | exact Dle.i (by omega) | exact Dle.i (by simp only [Int.toNat_natCast] at *; omega) | exact Dle.nil | exact Dle.rc Dle.nil | exact Option.some_ne_none _ | exact Or.inl rfl | exact Or.inr trivial | omega | (simp only [Int.toNat_natCast] at *; omega) | (intro _ _ _ _; exact Dle.of_eq rfl) | refine And.intro ?_ ?_), ?_⟩
            | (refine codeW_cond rfl ?_; first | (refine condW_dec ?_ ?_ <;> intro _ <;> try (exfalso; omega)) | refine condW_not ?_ | (refine condW_bool ?_ ?_ <;> intro _ <;> try (exfalso; omega)))
            | (refine facW_intro ?_; intro _)
            | refine Or.inl ?_
            | ((conv => whnf); first | (refine condW_dec ?_ ?_ <;> intro _ <;> try (exfalso; omega)) | refine condW_not ?_ | (refine condW_bool ?_ ?_ <;> intro _ <;> try (exfalso; omega)) | (refine nbC_t (fun _ => ?_) ?_) | (refine nbC_f ?_ (fun _ => ?_)))
            | refine And.intro (by first | omega | (simp only [Int.toNat_natCast] at *; omega) | (simp only [Nat.reduceAdd, Int.cast_ofNat_Int, true_and, and_true]; omega)  | (simp only [cx, view, Nat.reduceAdd, Int.toNat_natCast]; omega) | kernel_rfl) ?_
            | refine RegW.run ?_
            | fail
          all_goals first
            | (exfalso; omega)
            | exact Dle.refl _ _
            | trace_state
end
end mg
end Go.Proofs.YtndlgoklgclmjaaDoor
