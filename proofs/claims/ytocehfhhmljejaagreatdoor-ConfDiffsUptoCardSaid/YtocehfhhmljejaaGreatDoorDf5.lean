/-
  mastref2.differences.
-/
import Derived.Test.YtocehfhhmljejaaGreatDoorDfA
namespace Go.Proofs.YtocehfhhmljejaaGreatDoor
open Go.RowKit Go.Sort
set_option linter.unusedVariables false
set_option linter.unusedSimpArgs false
namespace df
open cr se ap so tab mg its
section
variable (E : Env)
set_option maxRecDepth 100000
set_option maxHeartbeats 16000000 in
theorem differ_sp : ∀ (N : Nat) (a b : Vu) (r : ByteArray) (G O : Nat), G ≠ O → SizeOf.sizeOf a < N → faultE a = 0 → faultE b = 0 → a.wt ≤ 100000000 → b.wt ≤ 100000000 → r.size + a.wt ≤ 1000000000 → r.size + b.wt ≤ 1000000000 →
    SpH (cx Tryz.prog mixed tyT_ok E) 10 [encV a, encV b, dS r] [] (.tup [.own G 8 0 (diffV N a b r).1.length, .own O 8 0 (diffV N a b r).2.length]) [(G, .row 75 (diffV N a b r).1.length (cgF (diffV N a b r).1)), (O, .row 75 (diffV N a b r).2.length (cgF (diffV N a b r).2))]
  | 0, a, b, r, G, O, _, h, _, _, _, _, _, _ => by omega
  | N + 1, a, b, r, G, O, hGO, h, ha, hb, wa, wb, ra, rb => by
    have ih := fun x y r' (hx : x ∈ a.items) h1 h2 h3 h4 h5 h6 => differ_sp N x y r' 67 10067 (by decide) (by have := items_lt a x hx; omega) h1 h2 h3 h4 h5 h6
    have hdl := diff_len (N + 1) a b r ha hb
    suffices hs : SpH (cx Tryz.prog mixed tyT_ok E) 10 [encV a, encV b, dS r] [] (.tup [.own 41 8 0 (diffV (N + 1) a b r).1.length, .own 42 8 0 (diffV (N + 1) a b r).2.length]) [(41, .row 75 (diffV (N + 1) a b r).1.length (cgF (diffV (N + 1) a b r).1)), (42, .row 75 (diffV (N + 1) a b r).2.length (cgF (diffV (N + 1) a b r).2))] by
      have h2 := hs.to2 41 42 G O
      simpa only [D.renL, D.ren, renH, Ob.ren, ren2_l (show (41 : Nat) ≠ 42 by decide) hGO, ren2_r, encV, encStrs, List.map_cons, List.map_nil] using h2
    have hs := sameOf_sp E a b
    obtain ⟨g, hg⟩ : ∃ g, g = (diffV (N + 1) a b r).1 := ⟨_, rfl⟩
    obtain ⟨o, ho⟩ : ∃ o, o = (diffV (N + 1) a b r).2 := ⟨_, rfl⟩
    rw [← hg, ← ho] at hdl ⊢
    unfold diffV at hg ho
    by_cases hc : cmpV a b = 0
    · rw [if_pos hc] at hg ho
      rw [decide_eq_true hc] at hs
      subst hg ho
      refine SpH.body Tryz.func10 (by kernel_rfl) rfl (by kernel_rfl) (by kernel_rfl) (by kernel_rfl) ?_
      repeat' first
        | (refine codeW_cond rfl ?_; first | (refine condW_dec ?_ ?_ <;> intro _ <;> try (exfalso; omega)) | refine condW_not ?_ | (refine condW_bool ?_ ?_ <;> intro _ <;> try (exfalso; omega)))
        | (refine facW_intro ?_; intro _)
        | refine Or.inl ?_
        | ((conv => whnf); first | (refine condW_dec ?_ ?_ <;> intro _ <;> try (exfalso; omega)) | refine condW_not ?_ | (refine condW_bool ?_ ?_ <;> intro _ <;> try (exfalso; omega)) | (refine nbC_t (fun _ => ?_) ?_) | (refine nbC_f ?_ (fun _ => ?_)))
        | refine And.intro (by first | omega | (simp only [Int.toNat_natCast] at *; omega) | (simp only [Nat.reduceAdd, Int.cast_ofNat_Int, true_and, and_true]; omega)  | kernel_rfl) ?_
        | refine RegW.run ?_
        | refine ⟨_, hs, ?_⟩
        | fail
      all_goals first
        | (exfalso; omega)
        | exact ⟨[], [(41, 75, 0, cgF []), (42, 75, 0, cgF [])], rfl, ⟨[(41, none), (42, none)], ⟨by kernel_rfl, by kernel_rfl, by kernel_rfl, by kernel_rfl, by kernel_rfl, by kernel_rfl, by kernel_rfl⟩, (by repeat' first | (exact rfl) | exact trivial | exact rfl | kernel_rfl | exact Dle.of_eq rfl | exact MLe.of_eq rfl | exact Dle.i (by omega) | exact Dle.i (by simp only [Int.toNat_natCast] at *; omega) | exact Dle.nil | exact Dle.rc Dle.nil | exact Option.some_ne_none _ | exact Or.inl rfl | exact Or.inr trivial | omega | (simp only [Int.toNat_natCast] at *; omega) | (intro _ _ _ _; exact Dle.of_eq rfl) | (intro i j hi hj; exact absurd hi (Nat.not_lt_zero i)) | refine And.intro ?_ ?_)⟩, rfl⟩
        | trace_state
    · rw [if_neg hc] at hg ho
      rw [decide_eq_false hc] at hs
      by_cases hk : a.kind ≠ 6 ∨ b.kind ≠ 6
      · rw [if_pos hk] at hg ho
        subst hg ho
        refine SpH.body Tryz.func10 (by kernel_rfl) rfl (by kernel_rfl) (by kernel_rfl) (by kernel_rfl) ?_
        repeat' first
          | (refine codeW_cond rfl ?_; first | (refine condW_dec ?_ ?_ <;> intro _ <;> try (exfalso; omega)) | refine condW_not ?_ | (refine condW_bool ?_ ?_ <;> intro _ <;> try (exfalso; omega)))
          | (refine facW_intro ?_; intro _)
          | refine Or.inl ?_
          | ((conv => whnf); first | (refine condW_dec ?_ ?_ <;> intro _ <;> try (exfalso; omega)) | refine condW_not ?_ | (refine condW_bool ?_ ?_ <;> intro _ <;> try (exfalso; omega)) | (refine nbC_t (fun _ => ?_) ?_) | (refine nbC_f ?_ (fun _ => ?_)))
          | refine And.intro (by first | omega | (simp only [Int.toNat_natCast] at *; omega) | (simp only [Nat.reduceAdd, Int.cast_ofNat_Int, true_and, and_true]; omega)  | kernel_rfl) ?_
          | refine RegW.run ?_
          | refine ⟨_, hs, ?_⟩
          | fail
        all_goals first
          | (exfalso; omega)
          | exact ⟨[], [(41, 75, 0, cgF []), (42, 75, 1, cgF [⟨r, b, false⟩])], rfl, ⟨[(41, none), (42, some 29)], ⟨by kernel_rfl, by kernel_rfl, by kernel_rfl, by kernel_rfl, by kernel_rfl, by kernel_rfl, by kernel_rfl⟩, (by repeat' first | (exact rfl) | exact trivial | exact rfl | kernel_rfl | exact Dle.of_eq rfl | exact MLe.of_eq rfl | exact Dle.i (by omega) | exact Dle.i (by simp only [Int.toNat_natCast] at *; omega) | exact Dle.nil | exact Dle.rc Dle.nil | exact Option.some_ne_none _ | exact Or.inl rfl | exact Or.inr trivial | omega | (simp only [Int.toNat_natCast] at *; omega) | (intro _ _ _ _; exact Dle.of_eq rfl) | (intro i j hi hj; first | exact absurd hi (Nat.not_lt_zero i) | exact row_cg E [] ⟨r, b, false⟩ _ (cg_other E r b) i j hi hj) | refine And.intro ?_ ?_)⟩, rfl⟩
          | trace_state
      · rw [if_neg hk] at hg ho
        have ka : a.kind = 6 := by omega
        have kb : b.kind = 6 := by omega
        have fa := fault_keys ha
        have fb := fault_keys hb
        have la := fa.2 ka
        have lb := fb.2 kb
        have hks := keys_same (b := b) ha ka
        have hspec := keysM_spec (b := b) ha ka
        obtain ⟨ks, hkse⟩ : ∃ ks, ks = keysM a b := ⟨_, rfl⟩
        obtain ⟨f, hf⟩ : ∃ f, f = entD (diffV N) a b r := ⟨_, rfl⟩
        rw [← hkse] at hks hspec
        have hg : g = part1 f ks ks.length := by rw [hg, part1_end, hf, hkse]
        have ho : o = part2 f ks ks.length := by rw [ho, part2_end, hf, hkse]
        clear hkse
        have kwa := keys_le_wt a
        have kwb := keys_le_wt b
        have hal : (a.keys ++ b.keys).length = a.keys.length + b.keys.length := List.length_append
        have hsz : ∀ s ∈ a.keys ++ b.keys, s.size ≤ maxLen := fun s hs => by
          show _ ≤ 9223372036854775807
          rcases List.mem_append.1 hs with h | h
          · have := key_sz h; omega
          · have := key_sz h; omega
        have c1 := concat_sp E a.keys b.keys (by omega) (by omega)
        have c2 := its.values_sp E (a.keys ++ b.keys)
        have c3 := sorted_l E 37 (a.keys ++ b.keys) (by omega) hsz
        obtain ⟨rr, hrr, c4⟩ := compact_l E 37 (sortB (a.keys ++ b.keys)) (by rw [so.sortB_len]; omega)
        rw [so.sortB_len] at c4
        have hkl := compB_len (sortB (a.keys ++ b.keys))
        rw [so.sortB_len, hks] at hkl
        rw [hks] at hrr c4
        clear hks hsz
        have g0 : (part1 f ks 0).length = 0 := rfl
        have o0 : (part2 f ks 0).length = 0 := rfl
        have gle : ∀ n, (part1 f ks n).length ≤ g.length := fun n => by have := part1_le f ks n; rw [hg, part1_end]; exact this
        have ole : ∀ n, (part2 f ks n).length ≤ o.length := fun n => by have := part2_le f ks n; rw [ho, part2_end]; exact this
        rw [hg, ho]
        refine SpH.body Tryz.func10 (by kernel_rfl) rfl (by kernel_rfl) (by kernel_rfl) (by kernel_rfl) ?_
        repeat' first
          | refine Or.inr ⟨_, _, _, Or.inl (c3), by kernel_rfl, (by repeat' first | exact trivial | exact rfl | kernel_rfl | exact Dle.of_eq rfl | exact MLe.of_eq rfl | exact Dle.i (by omega) | exact Dle.i (by simp only [Int.toNat_natCast] at *; omega) | exact Dle.nil | exact Dle.rc Dle.nil | exact Option.some_ne_none _ | exact Or.inl rfl | exact Or.inr trivial | omega | (simp only [Int.toNat_natCast] at *; omega) | (intro _ _ _ _; exact Dle.of_eq rfl) | refine And.intro ?_ ?_), ?_⟩
          | refine Or.inr ⟨_, _, _, Or.inl (c4), by kernel_rfl, (by repeat' first | exact trivial | exact rfl | kernel_rfl | exact Dle.of_eq rfl | exact MLe.of_eq rfl | exact Dle.i (by omega) | exact Dle.i (by simp only [Int.toNat_natCast] at *; omega) | exact Dle.nil | exact Dle.rc Dle.nil | exact Option.some_ne_none _ | exact Or.inl rfl | exact Or.inr trivial | omega | (simp only [Int.toNat_natCast] at *; omega) | (intro _ _ _ _; exact Dle.of_eq rfl) | refine And.intro ?_ ?_), ?_⟩
          | (refine codeW_cond rfl ?_; first | (refine condW_dec ?_ ?_ <;> intro _ <;> try (exfalso; omega)) | refine condW_not ?_ | (refine condW_bool ?_ ?_ <;> intro _ <;> try (exfalso; omega)))
          | (refine facW_intro ?_; intro _)
          | refine Or.inl ?_
          | ((conv => whnf); first | (refine condW_dec ?_ ?_ <;> intro _ <;> try (exfalso; omega)) | refine condW_not ?_ | (refine condW_bool ?_ ?_ <;> intro _ <;> try (exfalso; omega)) | (refine nbC_t (fun _ => ?_) ?_) | (refine nbC_f ?_ (fun _ => ?_)))
          | refine And.intro (by first | omega | (simp only [Int.toNat_natCast] at *; omega) | (simp only [Nat.reduceAdd, Int.cast_ofNat_Int, true_and, and_true]; omega)  | kernel_rfl) ?_
          | refine RegW.run ?_
          | refine ⟨_, hs, ?_⟩
          | refine ⟨_, c1, ?_⟩
          | refine ⟨_, c2, ?_⟩
          | fail
        refine ⟨Nat, fun n => [(41, i64 n), (6, .own 41 8 0 (part1 f ks n).length), (7, .own 42 8 0 (part2 f ks n).length)], fun n => [], [3, 4, 37], fun n => [(41, 75, (part1 f ks n).length, cgF (part1 f ks n)), (42, 75, (part2 f ks n).length, cgF (part2 f ks n))], fun n => n ≤ ks.length, fun n => ks.length - n, ⟨0, Nat.zero_le _, ⟨[(41, none), (42, none)], ⟨by kernel_rfl, by kernel_rfl, by kernel_rfl, by kernel_rfl, by kernel_rfl, by kernel_rfl, by kernel_rfl⟩, (by repeat' first | (first | exact g0 | exact o0) | exact trivial | exact rfl | kernel_rfl | exact Dle.of_eq rfl | exact MLe.of_eq rfl | exact Dle.i (by omega) | exact Dle.i (by simp only [Int.toNat_natCast] at *; omega) | exact Dle.nil | exact Dle.rc Dle.nil | exact Option.some_ne_none _ | exact Or.inl rfl | exact Or.inr trivial | omega | (simp only [Int.toNat_natCast] at *; omega) | (intro _ _ _ _; exact Dle.of_eq rfl) | refine And.intro ?_ ?_)⟩⟩, fun n hn => ?_⟩
        have hn2 : n ≤ ks.length := hn
        have gn := gle (n + 1)
        have on := ole (n + 1)
        have gn0 := gle n
        have on0 := ole n
        by_cases hlt : n < ks.length
        · have en : 0 + ((n : Int)).toNat = n := by rw [Nat.zero_add, Int.toNat_natCast]
          have hT : rr.getD (0 + ((n : Int)).toNat) ⟨#[]⟩ = ks.getD n ⟨#[]⟩ := by rw [en]; exact hrr n hlt
          have hkm : ks.getD n ⟨#[]⟩ ∈ ks := getD_mem2 hlt
          have hor := (hspec.2 _).1 hkm
          have e1 := part1_next f hlt
          have e2 := part2_next f hlt
          generalize ks.getD n ⟨#[]⟩ = key at hT hkm hor e1 e2
          have hkz : key.size ≤ 100000000 := by
            rcases hor with h | h
            · have := key_sz h; omega
            · have := key_sz h; omega
          have hfk : f key = entD (diffV N) a b r key := by rw [hf]
          have i1 : Sp (cx Tryz.prog mixed tyT_ok E) 44 [encStrs a.keys, dS (rr.getD (0 + ((n : Int)).toNat) ⟨#[]⟩)] (i64 (if hasK a key = true then (findK a key : Int) else -1)) := by
            rw [hT, ← idx_find fa.1]
            exact index_sp E a.keys key
          have i2 : Sp (cx Tryz.prog mixed tyT_ok E) 44 [encStrs b.keys, dS (rr.getD (0 + ((n : Int)).toNat) ⟨#[]⟩)] (i64 (if hasK b key = true then (findK b key : Int) else -1)) := by
            rw [hT, ← idx_find fb.1]
            exact index_sp E b.keys key
          have rt : Sp (cx Tryz.prog mixed tyT_ok E) 45 [dS r, dS (rr.getD (0 + ((n : Int)).toNat) ⟨#[]⟩)] (dS (joinQ r key)) := by
            rw [hT]
            exact route_sp E r key (by omega)
          unfold entD at hfk
          cases h2 : hasK b key
          · rw [h2, if_pos rfl] at hfk
            rw [h2, if_neg (by decide)] at i2
            rw [hfk] at e1 e2
            have e2 : part2 f ks (n + 1) = part2 f ks n := by rw [e2, List.append_nil]
            have l1 : (part1 f ks (n + 1)).length = (part1 f ks n).length + 1 := by rw [e1]; simp
            have l2 : (part2 f ks (n + 1)).length = (part2 f ks n).length := by rw [e2]
            generalize (if hasK a key = true then (findK a key : Int) else -1) = z at i1
            repeat' first
              | (refine codeW_cond rfl ?_; first | (refine condW_dec ?_ ?_ <;> intro _ <;> try (exfalso; omega)) | refine condW_not ?_ | (refine condW_bool ?_ ?_ <;> intro _ <;> try (exfalso; omega)))
              | (refine facW_intro ?_; intro _)
              | refine Or.inl ?_
              | ((conv => whnf); first | (refine condW_dec ?_ ?_ <;> intro _ <;> try (exfalso; omega)) | refine condW_not ?_ | (refine condW_bool ?_ ?_ <;> intro _ <;> try (exfalso; omega)) | (refine nbC_t (fun _ => ?_) ?_) | (refine nbC_f ?_ (fun _ => ?_)))
              | refine And.intro (by first | omega | (simp only [Int.toNat_natCast] at *; omega) | (simp only [Nat.reduceAdd, Int.cast_ofNat_Int, true_and, and_true]; omega)  | kernel_rfl) ?_
              | refine RegW.run ?_
              | refine ⟨_, i1, ?_⟩
              | refine ⟨_, i2, ?_⟩
              | refine ⟨_, rt, ?_⟩
              | fail
            all_goals first
              | (exfalso; omega)
              | exact ⟨n + 1, hlt, ⟨[(41, some 85), (42, some 42)], ⟨by kernel_rfl, by kernel_rfl, by kernel_rfl, by kernel_rfl, by kernel_rfl, by kernel_rfl, by kernel_rfl⟩, (by repeat' first | (first | exact l1.symm | exact l2.symm) | exact trivial | exact rfl | kernel_rfl | exact Dle.of_eq rfl | exact MLe.of_eq rfl | exact Dle.i (by omega) | exact Dle.i (by simp only [Int.toNat_natCast] at *; omega) | exact Dle.nil | exact Dle.rc Dle.nil | exact Option.some_ne_none _ | exact Or.inl rfl | exact Or.inr trivial | omega | (simp only [Int.toNat_natCast] at *; omega) | (intro _ _ _ _; exact Dle.of_eq rfl) | (intro i j hi hj; first | (rw [e1]; exact row_cg E _ _ _ (cg_gone E _) i j hi hj) | (rw [e2]; exact Dle.refl _ _)) | refine And.intro ?_ ?_)⟩, by first | omega | (dsimp only; omega)⟩
              | trace_state
          · have hb2 := has_lt h2
            rw [h2, if_neg (by decide)] at hfk
            rw [h2, if_pos rfl] at i2
            cases h1 : hasK a key
            · rw [h1, if_pos rfl] at hfk
              rw [h1, if_neg (by decide)] at i1
              rw [hfk] at e1 e2
              have e1 : part1 f ks (n + 1) = part1 f ks n := by rw [e1, List.append_nil]
              have l1 : (part1 f ks (n + 1)).length = (part1 f ks n).length := by rw [e1]
              have l2 : (part2 f ks (n + 1)).length = (part2 f ks n).length + 1 := by rw [e2]; simp
              have hb3 : findK b key < b.items.length := by omega
              repeat' first
                | (refine codeW_cond rfl ?_; first | (refine condW_dec ?_ ?_ <;> intro _ <;> try (exfalso; omega)) | refine condW_not ?_ | (refine condW_bool ?_ ?_ <;> intro _ <;> try (exfalso; omega)))
                | (refine facW_intro ?_; intro _)
                | refine Or.inl ?_
                | ((conv => whnf); first | (refine condW_dec ?_ ?_ <;> intro _ <;> try (exfalso; omega)) | refine condW_not ?_ | (refine condW_bool ?_ ?_ <;> intro _ <;> try (exfalso; omega)) | (refine nbC_t (fun _ => ?_) ?_) | (refine nbC_f ?_ (fun _ => ?_)))
                | refine And.intro (by first | omega | (simp only [Int.toNat_natCast] at *; omega) | (simp only [Nat.reduceAdd, Int.cast_ofNat_Int, true_and, and_true]; omega)  | kernel_rfl) ?_
                | refine RegW.run ?_
                | refine ⟨_, i1, ?_⟩
                | refine ⟨_, i2, ?_⟩
                | refine ⟨_, rt, ?_⟩
                | fail
              all_goals first
                | (exfalso; omega)
                | exact ⟨n + 1, hlt, ⟨[(41, some 41), (42, some 100)], ⟨by kernel_rfl, by kernel_rfl, by kernel_rfl, by kernel_rfl, by kernel_rfl, by kernel_rfl, by kernel_rfl⟩, (by repeat' first | (first | exact l1.symm | exact l2.symm) | exact trivial | exact rfl | kernel_rfl | exact Dle.of_eq rfl | exact MLe.of_eq rfl | exact Dle.i (by omega) | exact Dle.i (by simp only [Int.toNat_natCast] at *; omega) | exact Dle.nil | exact Dle.rc Dle.nil | exact Option.some_ne_none _ | exact Or.inl rfl | exact Or.inr trivial | omega | (simp only [Int.toNat_natCast] at *; omega) | (intro _ _ _ _; exact Dle.of_eq rfl) | (intro i j hi hj; first | (rw [e1]; exact Dle.refl _ _) | (rw [e2]; exact row_cg E _ _ _ (cg_other E _ _) i j hi hj)) | refine And.intro ?_ ?_)⟩, by first | omega | (dsimp only; omega)⟩
                | trace_state
            · have ha2 := has_lt h1
              rw [h1, if_neg (by decide)] at hfk
              rw [h1, if_pos rfl] at i1
              rw [hfk] at e1 e2
              have hb3 : findK b key < b.items.length := by omega
              have ha3 : findK a key < a.items.length := by omega
              have l1 : (part1 f ks (n + 1)).length = (part1 f ks n).length + (diffV N (a.items.getD (findK a key) .zero) (b.items.getD (findK b key) .zero) (joinQ r key)).1.length := by rw [e1]; simp
              have l2 : (part2 f ks (n + 1)).length = (part2 f ks n).length + (diffV N (a.items.getD (findK a key) .zero) (b.items.getD (findK b key) .zero) (joinQ r key)).2.length := by rw [e2]; simp
              have w1 := wt_key la h1
              have w2 := wt_key lb h2
              have hjs := joinQ_size r key
              have rc := ih (a.items.getD (findK a key) .zero) (b.items.getD (findK b key) .zero) (joinQ r key) (getD_mem2 ha3) (fault_mem ha ha3) (fault_mem hb hb3) (by omega) (by omega) (by omega) (by omega)
              generalize findK a key = x at *
              generalize findK b key = y at *
              generalize diffV N (a.items.getD x .zero) (b.items.getD y .zero) (joinQ r key) = q at *
              repeat' first
                | refine Or.inr ⟨_, _, _, Or.inl (rc), by kernel_rfl, (by repeat' first | exact trivial | exact rfl | kernel_rfl | exact Dle.of_eq rfl | exact MLe.of_eq rfl | exact Dle.i (by omega) | exact Dle.i (by simp only [Int.toNat_natCast] at *; omega) | exact Dle.nil | exact Dle.rc Dle.nil | exact Option.some_ne_none _ | exact Or.inl rfl | exact Or.inr trivial | omega | (simp only [Int.toNat_natCast] at *; omega) | (intro _ _ _ _; exact Dle.of_eq rfl) | refine And.intro ?_ ?_), ?_⟩
                | (refine codeW_cond rfl ?_; first | (refine condW_dec ?_ ?_ <;> intro _ <;> try (exfalso; omega)) | refine condW_not ?_ | (refine condW_bool ?_ ?_ <;> intro _ <;> try (exfalso; omega)))
                | (refine facW_intro ?_; intro _)
                | refine Or.inl ?_
                | ((conv => whnf); first | (refine condW_dec ?_ ?_ <;> intro _ <;> try (exfalso; omega)) | refine condW_not ?_ | (refine condW_bool ?_ ?_ <;> intro _ <;> try (exfalso; omega)) | (refine nbC_t (fun _ => ?_) ?_) | (refine nbC_f ?_ (fun _ => ?_)))
                | refine And.intro (by first | omega | (simp only [Int.toNat_natCast] at *; omega) | (simp only [Nat.reduceAdd, Int.cast_ofNat_Int, true_and, and_true]; omega)  | kernel_rfl) ?_
                | refine RegW.run ?_
                | refine ⟨_, i1, ?_⟩
                | refine ⟨_, i2, ?_⟩
                | refine ⟨_, rt, ?_⟩
                | fail
              all_goals first
                | (exfalso; omega)
                | exact ⟨n + 1, hlt, ⟨[(41, some 72), (42, some 75)], ⟨by kernel_rfl, by kernel_rfl, by kernel_rfl, by kernel_rfl, by kernel_rfl, by kernel_rfl, by kernel_rfl⟩, (by repeat' first | (first | exact l1.symm | exact l2.symm) | exact trivial | exact rfl | kernel_rfl | exact Dle.of_eq rfl | exact MLe.of_eq rfl | exact Dle.i (by omega) | exact Dle.i (by simp only [Int.toNat_natCast] at *; omega) | exact Dle.nil | exact Dle.rc Dle.nil | exact Option.some_ne_none _ | exact Or.inl rfl | exact Or.inr trivial | omega | (simp only [Int.toNat_natCast] at *; omega) | (intro _ _ _ _; exact Dle.of_eq rfl) | (intro i j hi hj; first | (rw [e1]; exact row_ap E _ _ i j) | (rw [e2]; exact row_ap E _ _ i j)) | refine And.intro ?_ ?_)⟩, by first | omega | (dsimp only; omega)⟩
                | trace_state
        · obtain rfl : n = ks.length := by omega
          repeat' first
            | (refine codeW_cond rfl ?_; first | (refine condW_dec ?_ ?_ <;> intro _ <;> try (exfalso; omega)) | refine condW_not ?_ | (refine condW_bool ?_ ?_ <;> intro _ <;> try (exfalso; omega)))
            | (refine facW_intro ?_; intro _)
            | refine Or.inl ?_
            | ((conv => whnf); first | (refine condW_dec ?_ ?_ <;> intro _ <;> try (exfalso; omega)) | refine condW_not ?_ | (refine condW_bool ?_ ?_ <;> intro _ <;> try (exfalso; omega)) | (refine nbC_t (fun _ => ?_) ?_) | (refine nbC_f ?_ (fun _ => ?_)))
            | refine And.intro (by first | omega | (simp only [Int.toNat_natCast] at *; omega) | (simp only [Nat.reduceAdd, Int.cast_ofNat_Int, true_and, and_true]; omega)  | kernel_rfl) ?_
            | refine RegW.run ?_
            | fail
          all_goals first
            | (exfalso; omega)
            | exact ⟨[], [(41, 75, (part1 f ks ks.length).length, cgF (part1 f ks ks.length)), (42, 75, (part2 f ks ks.length).length, cgF (part2 f ks ks.length))], rfl, ⟨[(41, some 41), (42, some 42)], ⟨by kernel_rfl, by kernel_rfl, by kernel_rfl, by kernel_rfl, by kernel_rfl, by kernel_rfl, by kernel_rfl⟩, (by repeat' first | (exact rfl) | exact trivial | exact rfl | kernel_rfl | exact Dle.of_eq rfl | exact MLe.of_eq rfl | exact Dle.i (by omega) | exact Dle.i (by simp only [Int.toNat_natCast] at *; omega) | exact Dle.nil | exact Dle.rc Dle.nil | exact Option.some_ne_none _ | exact Or.inl rfl | exact Or.inr trivial | omega | (simp only [Int.toNat_natCast] at *; omega) | (intro _ _ _ _; exact Dle.of_eq rfl) | (intro i j hi hj; exact Dle.refl _ _) | refine And.intro ?_ ?_)⟩, rfl⟩
            | trace_state
end
end df
end Go.Proofs.YtocehfhhmljejaaGreatDoor
