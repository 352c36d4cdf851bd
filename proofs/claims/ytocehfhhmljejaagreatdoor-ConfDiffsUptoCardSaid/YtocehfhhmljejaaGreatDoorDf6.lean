/-
  The program's differ.
-/
import Derived.Test.YtocehfhhmljejaaGreatDoorDfA
import Derived.Test.YtocehfhhmljejaaGreatDoorU9
namespace Go.Proofs.YtocehfhhmljejaaGreatDoor
open Go.RowKit Go.Sort
set_option linter.unusedVariables false
set_option linter.unusedSimpArgs false
namespace df
open cr se ap so tab mg its
abbrev dfH (l0 l1 : List Cg) (A B : Nat) : List (Nat × Ob RC) := [(3000, .cells [.own A 8 0 l0.length, .own B 8 0 l1.length]), (A, .row 75 l0.length (cgF l0)), (B, .row 75 l1.length (cgF l1))]
section
variable (E : Env)
set_option maxRecDepth 100000
theorem df_ren {f : FuncId} {a b : Vu} {r : ByteArray} {l0 l1 g0 g1 : List Cg} (h : SpH (cx Tryz.prog mixed tyT_ok E) f [.ptr 3000 0, encV a, encV b, dS r] (dfH l0 l1 2000 2001) (.tup []) (dfH g0 g1 64 65)) :
    SpH (cx Tryz.prog mixed tyT_ok E) f [.ptr 3000 0, encV a, encV b, dS r] (dfH l0 l1 64 65) (.tup []) (dfH g0 g1 95 10095) := by
  have h := ((h.swap 64 95).swap 65 10095).swap 2000 64 |>.swap 2001 65
  have e1 : YtocehfhhmljejaaGreatDoor.swp 64 95 3000 = 3000 := by decide
  have e2 : YtocehfhhmljejaaGreatDoor.swp 64 95 2000 = 2000 := by decide
  have e3 : YtocehfhhmljejaaGreatDoor.swp 64 95 2001 = 2001 := by decide
  have e4 : YtocehfhhmljejaaGreatDoor.swp 64 95 65 = 65 := by decide
  have f1 : YtocehfhhmljejaaGreatDoor.swp 65 10095 3000 = 3000 := by decide
  have f2 : YtocehfhhmljejaaGreatDoor.swp 65 10095 2000 = 2000 := by decide
  have f3 : YtocehfhhmljejaaGreatDoor.swp 65 10095 2001 = 2001 := by decide
  have f4 : YtocehfhhmljejaaGreatDoor.swp 65 10095 95 = 95 := by decide
  have g1 : YtocehfhhmljejaaGreatDoor.swp 2000 64 3000 = 3000 := by decide
  have g2 : YtocehfhhmljejaaGreatDoor.swp 2000 64 2001 = 2001 := by decide
  have g3 : YtocehfhhmljejaaGreatDoor.swp 2000 64 95 = 95 := by decide
  have g4 : YtocehfhhmljejaaGreatDoor.swp 2000 64 10095 = 10095 := by decide
  have k1 : YtocehfhhmljejaaGreatDoor.swp 2001 65 3000 = 3000 := by decide
  have k2 : YtocehfhhmljejaaGreatDoor.swp 2001 65 64 = 64 := by decide
  have k3 : YtocehfhhmljejaaGreatDoor.swp 2001 65 95 = 95 := by decide
  have k4 : YtocehfhhmljejaaGreatDoor.swp 2001 65 10095 = 10095 := by decide
  simpa only [dfH, encV, encStrs, D.renL, D.ren, renH, Ob.ren, List.map_cons, List.map_nil, swp_l, e1, e2, e3, e4, f1, f2, f3, f4, g1, g2, g3, g4, k1, k2, k3, k4] using h
set_option maxHeartbeats 16000000 in
theorem diff_l : ∀ (N : Nat) (a b : Vu) (r : ByteArray) (l0 l1 : List Cg), SizeOf.sizeOf a < N → faultE a = 0 → faultE b = 0 → a.wt ≤ 100000000 → b.wt ≤ 100000000 → r.size + a.wt ≤ 1000000000 → r.size + b.wt ≤ 1000000000 →
    (l0 ++ (diffV N a b r).1).length ≤ 1000000000 → (l1 ++ (diffV N a b r).2).length ≤ 1000000000 →
    SpH (cx Tryz.prog mixed tyT_ok E) 8 [.ptr 3000 0, encV a, encV b, dS r] (dfH l0 l1 2000 2001) (.tup []) (dfH (l0 ++ (diffV N a b r).1) (l1 ++ (diffV N a b r).2) 64 65)
  | 0, a, b, r, l0, l1, h, _, _, _, _, _, _, _, _ => by omega
  | N + 1, a, b, r, l0, l1, h, ha, hb, wa, wb, ra, rb, b0, b1 => by
    have ih := fun x y r' m0 m1 (hx : x ∈ a.items) h1 h2 h3 h4 h5 h6 h7 h8 => df_ren E (diff_l N x y r' m0 m1 (by have := items_lt a x hx; omega) h1 h2 h3 h4 h5 h6 h7 h8)
    have hs := compare_sp E _ a b (Nat.lt_succ_self _)
    obtain ⟨g, hg⟩ : ∃ g, g = (diffV (N + 1) a b r).1 := ⟨_, rfl⟩
    obtain ⟨o, ho⟩ : ∃ o, o = (diffV (N + 1) a b r).2 := ⟨_, rfl⟩
    rw [← hg] at b0 ⊢
    rw [← ho] at b1 ⊢
    unfold diffV at hg ho
    have q0 : l0.length ≤ (l0 ++ g).length := by rw [List.length_append]; omega
    have q1 : l1.length ≤ (l1 ++ o).length := by rw [List.length_append]; omega
    obtain ⟨z, hz⟩ : ∃ z, z = cmpV a b := ⟨_, rfl⟩
    rw [← hz] at hs hg ho
    by_cases hc : z = 0
    · rw [if_pos hc] at hg ho
      subst hg ho
      rw [List.append_nil, List.append_nil]
      refine SpH.body Tryz.func8 (by kernel_rfl) rfl (by kernel_rfl) (by kernel_rfl) (by kernel_rfl) ?_
      repeat' first
        | (refine codeW_cond rfl ?_; first | (refine condW_dec ?_ ?_ <;> intro _ <;> try (exfalso; omega)) | refine condW_not ?_ | (refine condW_bool ?_ ?_ <;> intro _ <;> try (exfalso; omega)))
        | (refine facW_intro ?_; intro _)
        | refine Or.inl ?_
        | ((conv => whnf); first | (refine condW_dec ?_ ?_ <;> intro _ <;> try (exfalso; omega)) | refine condW_not ?_ | (refine condW_bool ?_ ?_ <;> intro _ <;> try (exfalso; omega)) | (refine nbC_t (fun _ => ?_) ?_) | (refine nbC_f ?_ (fun _ => ?_)))
        | refine And.intro (by first | omega | (simp only [Int.toNat_natCast] at *; omega) | (simp only [Nat.reduceAdd, Int.cast_ofNat_Int, true_and, and_true]; omega)  | kernel_rfl) ?_
        | refine RegW.run ?_
        | refine ⟨_, hs, ?_⟩
        | fail
      all_goals first
        | (exfalso; omega)
        | exact ⟨[(3000, .cells [.own 64 8 0 l0.length, .own 65 8 0 l1.length])], [(64, 75, l0.length, cgF l0), (65, 75, l1.length, cgF l1)], rfl, ⟨[(64, some 2000), (65, some 2001)], ⟨by kernel_rfl, by kernel_rfl, by kernel_rfl, by kernel_rfl, by kernel_rfl, by kernel_rfl, by kernel_rfl⟩, (by repeat' first | (exact rfl) | exact trivial | exact rfl | kernel_rfl | exact Dle.of_eq rfl | exact MLe.of_eq rfl | exact Dle.i (by omega) | exact Dle.i (by simp only [Int.toNat_natCast] at *; omega) | exact Dle.nil | exact Dle.rc Dle.nil | exact Option.some_ne_none _ | exact Or.inl rfl | exact Or.inr trivial | omega | (simp only [Int.toNat_natCast] at *; omega) | (intro _ _ _ _; exact Dle.of_eq rfl) | (intro i j hi hj; exact Dle.refl _ _) | refine And.intro ?_ ?_)⟩, rfl⟩
        | trace_state
    · rw [if_neg hc] at hg ho
      by_cases hk : a.kind ≠ 6 ∨ b.kind ≠ 6
      · rw [if_pos hk] at hg ho
        have cl := clone_sp E _ b (Nat.lt_succ_self _) (by omega)
        subst hg ho
        rw [List.append_nil]
        have e1 : (l1 ++ [(⟨r, b, false⟩ : Cg)]).length = l1.length + 1 := by simp
        refine SpH.body Tryz.func8 (by kernel_rfl) rfl (by kernel_rfl) (by kernel_rfl) (by kernel_rfl) ?_
        repeat' first
          | (refine codeW_cond rfl ?_; first | (refine condW_dec ?_ ?_ <;> intro _ <;> try (exfalso; omega)) | refine condW_not ?_ | (refine condW_bool ?_ ?_ <;> intro _ <;> try (exfalso; omega)))
          | (refine facW_intro ?_; intro _)
          | refine Or.inl ?_
          | ((conv => whnf); first | (refine condW_dec ?_ ?_ <;> intro _ <;> try (exfalso; omega)) | refine condW_not ?_ | (refine condW_bool ?_ ?_ <;> intro _ <;> try (exfalso; omega)) | (refine nbC_t (fun _ => ?_) ?_) | (refine nbC_f ?_ (fun _ => ?_)))
          | refine And.intro (by first | omega | (simp only [Int.toNat_natCast] at *; omega) | (simp only [Nat.reduceAdd, Int.cast_ofNat_Int, true_and, and_true]; omega)  | kernel_rfl) ?_
          | refine RegW.run ?_
          | refine ⟨_, hs, ?_⟩
          | refine ⟨_, cl, ?_⟩
          | fail
        all_goals first
          | (exfalso; omega)
          | exact ⟨[(3000, .cells [.own 64 8 0 l0.length, .own 65 8 0 (l1 ++ [(⟨r, b, false⟩ : Cg)]).length])], [(64, 75, l0.length, cgF l0), (65, 75, (l1 ++ [(⟨r, b, false⟩ : Cg)]).length, cgF (l1 ++ [(⟨r, b, false⟩ : Cg)]))], rfl, ⟨[(64, some 2000), (65, some 40)], ⟨by kernel_rfl, by kernel_rfl, by kernel_rfl, by kernel_rfl, by kernel_rfl, by kernel_rfl, by kernel_rfl⟩, (by repeat' first | (first | exact rfl | exact e1.symm) | exact trivial | exact rfl | kernel_rfl | exact Dle.of_eq rfl | exact MLe.of_eq rfl | exact Dle.i (by omega) | exact Dle.i (by simp only [Int.toNat_natCast] at *; omega) | exact Dle.nil | exact Dle.rc Dle.nil | exact Option.some_ne_none _ | exact Or.inl rfl | exact Or.inr trivial | omega | (simp only [Int.toNat_natCast] at *; omega) | (intro _ _ _ _; exact Dle.of_eq rfl) | (intro i j hi hj; first | exact Dle.refl _ _ | exact row_cg E l1 ⟨r, b, false⟩ _ (cg_other E r b) i j hi hj) | refine And.intro ?_ ?_)⟩, rfl⟩
          | trace_state
      · rw [if_neg hk] at hg ho
        have ka : a.kind = 6 := by omega
        have kb : b.kind = 6 := by omega
        have fa := fault_keys ha
        have fb := fault_keys hb
        have la := fa.2 ka
        have lb := fb.2 kb
        have hspec := keysM_spec (b := b) ha ka
        obtain ⟨ks, hkse⟩ : ∃ ks, ks = keysM a b := ⟨_, rfl⟩
        obtain ⟨f, hf⟩ : ∃ f, f = entD (diffV N) a b r := ⟨_, rfl⟩
        rw [← hkse] at hspec
        have hg : g = part1 f ks ks.length := by rw [hg, part1_end, hf, hkse]
        have ho : o = part2 f ks ks.length := by rw [ho, part2_end, hf, hkse]
        have hkse : ks = (puts b b.keys.length a).keys := hkse
        have kwa := keys_le_wt a
        have kwb := keys_le_wt b
        have gle : ∀ n, (l0 ++ part1 f ks n).length ≤ (l0 ++ g).length := fun n => by have := part1_le f ks n; rw [hg, part1_end, List.length_append, List.length_append]; omega
        have ole : ∀ n, (l1 ++ part2 f ks n).length ≤ (l1 ++ o).length := fun n => by have := part2_le f ks n; rw [ho, part2_end, List.length_append, List.length_append]; omega
        have pl := fun n => puts_len b la n
        have g0 : l0 ++ part1 f ks 0 = l0 := List.append_nil _
        have o0 : l1 ++ part2 f ks 0 = l1 := List.append_nil _
        have g0l : (l0 ++ part1 f ks 0).length = l0.length := by rw [g0]
        have o0l : (l1 ++ part2 f ks 0).length = l1.length := by rw [o0]
        rw [hg, ho]
        refine SpH.body Tryz.func8 (by kernel_rfl) rfl (by kernel_rfl) (by kernel_rfl) (by kernel_rfl) ?_
        repeat' first
          | (refine codeW_cond rfl ?_; first | (refine condW_dec ?_ ?_ <;> intro _ <;> try (exfalso; omega)) | refine condW_not ?_ | (refine condW_bool ?_ ?_ <;> intro _ <;> try (exfalso; omega)))
          | (refine facW_intro ?_; intro _)
          | refine Or.inl ?_
          | ((conv => whnf); first | (refine condW_dec ?_ ?_ <;> intro _ <;> try (exfalso; omega)) | refine condW_not ?_ | (refine condW_bool ?_ ?_ <;> intro _ <;> try (exfalso; omega)) | (refine nbC_t (fun _ => ?_) ?_) | (refine nbC_f ?_ (fun _ => ?_)))
          | refine And.intro (by first | omega | (simp only [Int.toNat_natCast] at *; omega) | (simp only [Nat.reduceAdd, Int.cast_ofNat_Int, true_and, and_true]; omega)  | kernel_rfl) ?_
          | refine RegW.run ?_
          | refine ⟨_, hs, ?_⟩
          | fail
        all_goals try (exfalso; omega)
        refine ⟨Nat, fun n => [(47, i64 n)], fun n => [(8, .cells [i64 (puts b n a).kind, dB (puts b n a).b, i64 (puts b n a).i, dS (puts b n a).text, .rc (.vals (puts b n a).items), encStrs (puts b n a).keys])], [3000, 2000, 2001, 5, 6], fun n => [], fun n => n ≤ b.keys.length, fun n => b.keys.length - n, ⟨0, Nat.zero_le _, ⟨[], ⟨by kernel_rfl, by kernel_rfl, by kernel_rfl, by kernel_rfl, by kernel_rfl, by kernel_rfl, by kernel_rfl⟩, (by repeat' first | exact trivial | exact rfl | kernel_rfl | exact Dle.of_eq rfl | exact MLe.of_eq rfl | exact Dle.i (by omega) | exact Dle.i (by simp only [Int.toNat_natCast] at *; omega) | exact Dle.nil | exact Dle.rc Dle.nil | exact Option.some_ne_none _ | exact Or.inl rfl | exact Or.inr trivial | omega | (simp only [Int.toNat_natCast] at *; omega) | (intro _ _ _ _; exact Dle.of_eq rfl) | refine And.intro ?_ ?_)⟩⟩, fun n hn => ?_⟩
        have hn2 : n ≤ b.keys.length := hn
        by_cases hlt : n < b.keys.length
        · have pn := pl n
          have hbi : n < b.items.length := by omega
          have hp := put_sp E (puts b n a) (b.keys.getD n ⟨#[]⟩) (b.items.getD n .zero) (by omega) pn.1
          have hpe : putK (puts b n a) (b.keys.getD n ⟨#[]⟩) (b.items.getD n .zero) = puts b (n + 1) a := rfl
          rw [hpe] at hp
          repeat' first
            | (refine codeW_cond rfl ?_; first | (refine condW_dec ?_ ?_ <;> intro _ <;> try (exfalso; omega)) | refine condW_not ?_ | (refine condW_bool ?_ ?_ <;> intro _ <;> try (exfalso; omega)))
            | (refine facW_intro ?_; intro _)
            | refine Or.inl ?_
            | ((conv => whnf); first | (refine condW_dec ?_ ?_ <;> intro _ <;> try (exfalso; omega)) | refine condW_not ?_ | (refine condW_bool ?_ ?_ <;> intro _ <;> try (exfalso; omega)) | (refine nbC_t (fun _ => ?_) ?_) | (refine nbC_f ?_ (fun _ => ?_)))
            | refine And.intro (by first | omega | (simp only [Int.toNat_natCast] at *; omega) | (simp only [Nat.reduceAdd, Int.cast_ofNat_Int, true_and, and_true]; omega)  | kernel_rfl) ?_
            | refine RegW.run ?_
            | refine ⟨_, hp, ?_⟩
            | fail
          all_goals first
            | (exfalso; omega)
            | exact ⟨n + 1, hlt, ⟨[], ⟨by kernel_rfl, by kernel_rfl, by kernel_rfl, by kernel_rfl, by kernel_rfl, by kernel_rfl, by kernel_rfl⟩, (by repeat' first | exact trivial | exact rfl | kernel_rfl | exact Dle.of_eq rfl | exact MLe.of_eq rfl | exact Dle.i (by omega) | exact Dle.i (by simp only [Int.toNat_natCast] at *; omega) | exact Dle.nil | exact Dle.rc Dle.nil | exact Option.some_ne_none _ | exact Or.inl rfl | exact Or.inr trivial | omega | (simp only [Int.toNat_natCast] at *; omega) | (intro _ _ _ _; exact Dle.of_eq rfl) | refine And.intro ?_ ?_)⟩, by first | omega | (dsimp only; omega)⟩
            | trace_state
        · obtain rfl : n = b.keys.length := by omega
          subst hkse
          repeat' first
            | (refine codeW_cond rfl ?_; first | (refine condW_dec ?_ ?_ <;> intro _ <;> try (exfalso; omega)) | refine condW_not ?_ | (refine condW_bool ?_ ?_ <;> intro _ <;> try (exfalso; omega)))
            | (refine facW_intro ?_; intro _)
            | refine Or.inl ?_
            | ((conv => whnf); first | (refine condW_dec ?_ ?_ <;> intro _ <;> try (exfalso; omega)) | refine condW_not ?_ | (refine condW_bool ?_ ?_ <;> intro _ <;> try (exfalso; omega)) | (refine nbC_t (fun _ => ?_) ?_) | (refine nbC_f ?_ (fun _ => ?_)))
            | refine And.intro (by first | omega | (simp only [Int.toNat_natCast] at *; omega) | (simp only [Nat.reduceAdd, Int.cast_ofNat_Int, true_and, and_true]; omega)  | kernel_rfl) ?_
            | refine RegW.run ?_
            | fail
          refine ⟨Nat, fun n => [(64, i64 n)], fun n => [(3000, .cells [.own 64 8 0 (l0 ++ part1 f (puts b b.keys.length a).keys n).length, .own 65 8 0 (l1 ++ part2 f (puts b b.keys.length a).keys n).length])], [5, 6], fun n => [(64, 75, (l0 ++ part1 f (puts b b.keys.length a).keys n).length, cgF (l0 ++ part1 f (puts b b.keys.length a).keys n)), (65, 75, (l1 ++ part2 f (puts b b.keys.length a).keys n).length, cgF (l1 ++ part2 f (puts b b.keys.length a).keys n))], fun n => n ≤ (puts b b.keys.length a).keys.length, fun n => (puts b b.keys.length a).keys.length - n, ⟨0, Nat.zero_le _, ⟨[(64, some 2000), (65, some 2001)], ⟨by kernel_rfl, by kernel_rfl, by kernel_rfl, by kernel_rfl, by kernel_rfl, by kernel_rfl, by kernel_rfl⟩, (by repeat' first | (first | exact g0l | exact o0l | exact g0l.symm | exact o0l.symm | (intro i j hi hj; rw [g0]; exact Dle.refl _ _) | (intro i j hi hj; rw [o0]; exact Dle.refl _ _)) | exact trivial | exact rfl | kernel_rfl | exact Dle.of_eq rfl | exact MLe.of_eq rfl | exact Dle.i (by omega) | exact Dle.i (by simp only [Int.toNat_natCast] at *; omega) | exact Dle.nil | exact Dle.rc Dle.nil | exact Option.some_ne_none _ | exact Or.inl rfl | exact Or.inr trivial | omega | (simp only [Int.toNat_natCast] at *; omega) | (intro _ _ _ _; exact Dle.of_eq rfl) | refine And.intro ?_ ?_)⟩⟩, fun n hn => ?_⟩
          have hn3 : n ≤ (puts b b.keys.length a).keys.length := hn
          have gn := gle (n + 1)
          have on := ole (n + 1)
          have gn0 := gle n
          have on0 := ole n
          by_cases hlt : n < (puts b b.keys.length a).keys.length
          · have hT : (puts b b.keys.length a).keys.getD ((n : Int)).toNat ⟨#[]⟩ = (puts b b.keys.length a).keys.getD n ⟨#[]⟩ := by rw [Int.toNat_natCast]
            have hkm : (puts b b.keys.length a).keys.getD n ⟨#[]⟩ ∈ (puts b b.keys.length a).keys := getD_mem2 hlt
            have hor := (hspec.2 _).1 hkm
            have e1 := part1_next f hlt
            have e2 := part2_next f hlt
            obtain ⟨key, hkey⟩ : ∃ key, key = (puts b b.keys.length a).keys.getD n ⟨#[]⟩ := ⟨_, rfl⟩
            rw [← hkey] at hT hkm hor e1 e2
            have hkz : key.size ≤ 100000000 := by
              rcases hor with h | h
              · have := key_sz h; omega
              · have := key_sz h; omega
            have hfk : f key = entD (diffV N) a b r key := by rw [hf]
            have i1 : Sp (cx Tryz.prog mixed tyT_ok E) 34 [encV a, dS ((puts b b.keys.length a).keys.getD ((n : Int)).toNat ⟨#[]⟩)] (.tup [i64 (findK a key), dB (hasK a key)]) := by
              rw [hT]
              exact find_sp E a key (by omega)
            have i2 : Sp (cx Tryz.prog mixed tyT_ok E) 34 [encV b, dS ((puts b b.keys.length a).keys.getD ((n : Int)).toNat ⟨#[]⟩)] (.tup [i64 (findK b key), dB (hasK b key)]) := by
              rw [hT]
              exact find_sp E b key (by omega)
            have rt : Sp (cx Tryz.prog mixed tyT_ok E) 35 [dS r, dS ((puts b b.keys.length a).keys.getD ((n : Int)).toNat ⟨#[]⟩)] (dS (joinQ r key)) := by
              rw [hT]
              exact joined_sp E r key (by omega)
            unfold entD at hfk
            cases h2 : hasK b key
            · rw [h2, if_pos rfl] at hfk
              rw [h2] at i2
              rw [hfk] at e1 e2
              have e1 : l0 ++ part1 f (puts b b.keys.length a).keys (n + 1) = (l0 ++ part1 f (puts b b.keys.length a).keys n) ++ [⟨joinQ r key, .zero, true⟩] := by rw [e1, List.append_assoc]
              have e2 : l1 ++ part2 f (puts b b.keys.length a).keys (n + 1) = l1 ++ part2 f (puts b b.keys.length a).keys n := by rw [e2, List.append_nil]
              have m1 : (l0 ++ part1 f (puts b b.keys.length a).keys (n + 1)).length = (l0 ++ part1 f (puts b b.keys.length a).keys n).length + 1 := by rw [e1, List.length_append, List.length_singleton]
              have m2 : (l1 ++ part2 f (puts b b.keys.length a).keys (n + 1)).length = (l1 ++ part2 f (puts b b.keys.length a).keys n).length := by rw [e2]
              generalize hasK a key = q1 at i1
              generalize findK a key = q2 at i1
              generalize findK b key = q3 at i2
              repeat' first
                | (refine codeW_cond rfl ?_; first | (refine condW_dec ?_ ?_ <;> intro _ <;> try (exfalso; omega)) | refine condW_not ?_ | (refine condW_bool ?_ ?_ <;> intro _ <;> try (exfalso; omega)))
                | (refine facW_intro ?_; intro _)
                | refine Or.inl ?_
                | ((conv => whnf); first | (refine condW_dec ?_ ?_ <;> intro _ <;> try (exfalso; omega)) | refine condW_not ?_ | (refine condW_bool ?_ ?_ <;> intro _ <;> try (exfalso; omega)) | (refine nbC_t (fun _ => ?_) ?_) | (refine nbC_f ?_ (fun _ => ?_)))
                | refine And.intro (by first | omega | (simp only [Int.toNat_natCast] at *; omega) | (simp only [Nat.reduceAdd, Int.cast_ofNat_Int, true_and, and_true]; omega)  | kernel_rfl) ?_
                | refine RegW.run ?_
                | refine ⟨_, i1, ?_⟩
                | refine ⟨_, i2, ?_⟩
                | refine ⟨_, rt, ?_⟩
                | fail
              all_goals first
                | (exfalso; omega)
                | exact ⟨n + 1, hlt, ⟨[(64, some 107), (65, some 65)], ⟨by kernel_rfl, by kernel_rfl, by kernel_rfl, by kernel_rfl, by kernel_rfl, by kernel_rfl, by kernel_rfl⟩, (by repeat' first | (first | exact m1.symm | exact m2.symm) | exact trivial | exact rfl | kernel_rfl | exact Dle.of_eq rfl | exact MLe.of_eq rfl | exact Dle.i (by omega) | exact Dle.i (by simp only [Int.toNat_natCast] at *; omega) | exact Dle.nil | exact Dle.rc Dle.nil | exact Option.some_ne_none _ | exact Or.inl rfl | exact Or.inr trivial | omega | (simp only [Int.toNat_natCast] at *; omega) | (intro _ _ _ _; exact Dle.of_eq rfl) | (intro i j hi hj; first | (rw [e1]; exact row_cg E _ _ _ (cg_gone E _) i j hi hj) | (rw [e2]; exact Dle.refl _ _)) | refine And.intro ?_ ?_)⟩, by first | omega | (dsimp only; omega)⟩
                | trace_state
            · have hb2 := has_lt h2
              rw [h2, if_neg (by decide)] at hfk
              rw [h2] at i2
              cases h1 : hasK a key
              · rw [h1, if_pos rfl] at hfk
                rw [h1] at i1
                rw [hfk] at e1 e2
                have e1 : l0 ++ part1 f (puts b b.keys.length a).keys (n + 1) = l0 ++ part1 f (puts b b.keys.length a).keys n := by rw [e1, List.append_nil]
                have e2 : l1 ++ part2 f (puts b b.keys.length a).keys (n + 1) = (l1 ++ part2 f (puts b b.keys.length a).keys n) ++ [⟨joinQ r key, b.items.getD (findK b key) .zero, false⟩] := by rw [e2, List.append_assoc]
                have m1 : (l0 ++ part1 f (puts b b.keys.length a).keys (n + 1)).length = (l0 ++ part1 f (puts b b.keys.length a).keys n).length := by rw [e1]
                have m2 : (l1 ++ part2 f (puts b b.keys.length a).keys (n + 1)).length = (l1 ++ part2 f (puts b b.keys.length a).keys n).length + 1 := by rw [e2, List.length_append, List.length_singleton]
                have hb3 : findK b key < b.items.length := by omega
                have w2 := wt_key lb h2
                have cl := clone_sp E _ (b.items.getD (findK b key) .zero) (Nat.lt_succ_self _) (by omega)
                generalize findK a key = q2 at i1
                repeat' first
                  | (refine codeW_cond rfl ?_; first | (refine condW_dec ?_ ?_ <;> intro _ <;> try (exfalso; omega)) | refine condW_not ?_ | (refine condW_bool ?_ ?_ <;> intro _ <;> try (exfalso; omega)))
                  | (refine facW_intro ?_; intro _)
                  | refine Or.inl ?_
                  | ((conv => whnf); first | (refine condW_dec ?_ ?_ <;> intro _ <;> try (exfalso; omega)) | refine condW_not ?_ | (refine condW_bool ?_ ?_ <;> intro _ <;> try (exfalso; omega)) | (refine nbC_t (fun _ => ?_) ?_) | (refine nbC_f ?_ (fun _ => ?_)))
                  | refine And.intro (by first | omega | (simp only [Int.toNat_natCast] at *; omega) | (simp only [Nat.reduceAdd, Int.cast_ofNat_Int, true_and, and_true]; omega)  | kernel_rfl) ?_
                  | refine RegW.run ?_
                  | refine ⟨_, i1, ?_⟩
                  | refine ⟨_, i2, ?_⟩
                  | refine ⟨_, rt, ?_⟩
                  | refine ⟨_, cl, ?_⟩
                  | fail
                all_goals first
                  | (exfalso; omega)
                  | exact ⟨n + 1, hlt, ⟨[(64, some 64), (65, some 127)], ⟨by kernel_rfl, by kernel_rfl, by kernel_rfl, by kernel_rfl, by kernel_rfl, by kernel_rfl, by kernel_rfl⟩, (by repeat' first | (first | exact m1.symm | exact m2.symm) | exact trivial | exact rfl | kernel_rfl | exact Dle.of_eq rfl | exact MLe.of_eq rfl | exact Dle.i (by omega) | exact Dle.i (by simp only [Int.toNat_natCast] at *; omega) | exact Dle.nil | exact Dle.rc Dle.nil | exact Option.some_ne_none _ | exact Or.inl rfl | exact Or.inr trivial | omega | (simp only [Int.toNat_natCast] at *; omega) | (intro _ _ _ _; exact Dle.of_eq rfl) | (intro i j hi hj; first | (rw [e1]; exact Dle.refl _ _) | (rw [e2]; exact row_cg E _ _ _ (cg_other E _ _) i j hi hj)) | refine And.intro ?_ ?_)⟩, by first | omega | (dsimp only; omega)⟩
                  | trace_state
              · have ha2 := has_lt h1
                rw [h1, if_neg (by decide)] at hfk
                rw [h1] at i1
                rw [hfk] at e1 e2
                have hb3 : findK b key < b.items.length := by omega
                have ha3 : findK a key < a.items.length := by omega
                have e1 : l0 ++ part1 f (puts b b.keys.length a).keys (n + 1) = (l0 ++ part1 f (puts b b.keys.length a).keys n) ++ (diffV N (a.items.getD (findK a key) .zero) (b.items.getD (findK b key) .zero) (joinQ r key)).1 := by rw [e1, List.append_assoc]
                have e2 : l1 ++ part2 f (puts b b.keys.length a).keys (n + 1) = (l1 ++ part2 f (puts b b.keys.length a).keys n) ++ (diffV N (a.items.getD (findK a key) .zero) (b.items.getD (findK b key) .zero) (joinQ r key)).2 := by rw [e2, List.append_assoc]
                have w1 := wt_key la h1
                have w2 := wt_key lb h2
                have hjs := joinQ_size r key
                have rc := ih (a.items.getD (findK a key) .zero) (b.items.getD (findK b key) .zero) (joinQ r key) (l0 ++ part1 f (puts b b.keys.length a).keys n) (l1 ++ part2 f (puts b b.keys.length a).keys n) (getD_mem2 ha3) (fault_mem ha ha3) (fault_mem hb hb3) (by omega) (by omega) (by omega) (by omega) (by rw [← e1]; omega) (by rw [← e2]; omega)
                rw [← e1, ← e2] at rc
                generalize findK a key = x at *
                generalize findK b key = y at *
                repeat' first
                  | refine Or.inr ⟨_, _, _, Or.inl (rc), by kernel_rfl, (by repeat' first | exact trivial | exact rfl | kernel_rfl | exact Dle.of_eq rfl | exact MLe.of_eq rfl | exact Dle.i (by omega) | exact Dle.i (by simp only [Int.toNat_natCast] at *; omega) | exact Dle.nil | exact Dle.rc Dle.nil | exact Option.some_ne_none _ | exact Or.inl rfl | exact Or.inr trivial | omega | (simp only [Int.toNat_natCast] at *; omega) | (intro _ _ _ _; exact Dle.of_eq rfl) | refine And.intro ?_ ?_), ?_⟩
                  | (refine codeW_cond rfl ?_; first | (refine condW_dec ?_ ?_ <;> intro _ <;> try (exfalso; omega)) | refine condW_not ?_ | (refine condW_bool ?_ ?_ <;> intro _ <;> try (exfalso; omega)))
                  | (refine facW_intro ?_; intro _)
                  | refine Or.inl ?_
                  | ((conv => whnf); first | (refine condW_dec ?_ ?_ <;> intro _ <;> try (exfalso; omega)) | refine condW_not ?_ | (refine condW_bool ?_ ?_ <;> intro _ <;> try (exfalso; omega)) | (refine nbC_t (fun _ => ?_) ?_) | (refine nbC_f ?_ (fun _ => ?_)))
                  | refine And.intro (by first | omega | (simp only [Int.toNat_natCast] at *; omega) | (simp only [Nat.reduceAdd, Int.cast_ofNat_Int, true_and, and_true]; omega)  | kernel_rfl) ?_
                  | refine RegW.run ?_
                  | refine ⟨_, i1, ?_⟩
                  | refine ⟨_, i2, ?_⟩
                  | refine ⟨_, rt, ?_⟩
                  | fail
                all_goals first
                  | (exfalso; omega)
                  | exact ⟨n + 1, hlt, ⟨[(64, some 95), (65, some 10095)], ⟨by kernel_rfl, by kernel_rfl, by kernel_rfl, by kernel_rfl, by kernel_rfl, by kernel_rfl, by kernel_rfl⟩, (by repeat' first | (exact rfl) | exact trivial | exact rfl | kernel_rfl | exact Dle.of_eq rfl | exact MLe.of_eq rfl | exact Dle.i (by omega) | exact Dle.i (by simp only [Int.toNat_natCast] at *; omega) | exact Dle.nil | exact Dle.rc Dle.nil | exact Option.some_ne_none _ | exact Or.inl rfl | exact Or.inr trivial | omega | (simp only [Int.toNat_natCast] at *; omega) | (intro _ _ _ _; exact Dle.of_eq rfl) | (intro i j hi hj; exact Dle.refl _ _) | refine And.intro ?_ ?_)⟩, by first | omega | (dsimp only; omega)⟩
                  | trace_state
          · obtain rfl : n = (puts b b.keys.length a).keys.length := by omega
            repeat' first
              | (refine codeW_cond rfl ?_; first | (refine condW_dec ?_ ?_ <;> intro _ <;> try (exfalso; omega)) | refine condW_not ?_ | (refine condW_bool ?_ ?_ <;> intro _ <;> try (exfalso; omega)))
              | (refine facW_intro ?_; intro _)
              | refine Or.inl ?_
              | ((conv => whnf); first | (refine condW_dec ?_ ?_ <;> intro _ <;> try (exfalso; omega)) | refine condW_not ?_ | (refine condW_bool ?_ ?_ <;> intro _ <;> try (exfalso; omega)) | (refine nbC_t (fun _ => ?_) ?_) | (refine nbC_f ?_ (fun _ => ?_)))
              | refine And.intro (by first | omega | (simp only [Int.toNat_natCast] at *; omega) | (simp only [Nat.reduceAdd, Int.cast_ofNat_Int, true_and, and_true]; omega)  | kernel_rfl) ?_
              | refine RegW.run ?_
              | fail
            all_goals first
              | (exfalso; omega)
              | exact ⟨[(3000, .cells [.own 64 8 0 (l0 ++ part1 f (puts b b.keys.length a).keys (puts b b.keys.length a).keys.length).length, .own 65 8 0 (l1 ++ part2 f (puts b b.keys.length a).keys (puts b b.keys.length a).keys.length).length])], [(64, 75, (l0 ++ part1 f (puts b b.keys.length a).keys (puts b b.keys.length a).keys.length).length, cgF (l0 ++ part1 f (puts b b.keys.length a).keys (puts b b.keys.length a).keys.length)), (65, 75, (l1 ++ part2 f (puts b b.keys.length a).keys (puts b b.keys.length a).keys.length).length, cgF (l1 ++ part2 f (puts b b.keys.length a).keys (puts b b.keys.length a).keys.length))], rfl, ⟨[(64, some 64), (65, some 65)], ⟨by kernel_rfl, by kernel_rfl, by kernel_rfl, by kernel_rfl, by kernel_rfl, by kernel_rfl, by kernel_rfl⟩, (by repeat' first | (exact rfl) | exact trivial | exact rfl | kernel_rfl | exact Dle.of_eq rfl | exact MLe.of_eq rfl | exact Dle.i (by omega) | exact Dle.i (by simp only [Int.toNat_natCast] at *; omega) | exact Dle.nil | exact Dle.rc Dle.nil | exact Option.some_ne_none _ | exact Or.inl rfl | exact Or.inr trivial | omega | (simp only [Int.toNat_natCast] at *; omega) | (intro _ _ _ _; exact Dle.of_eq rfl) | (intro i j hi hj; exact Dle.refl _ _) | refine And.intro ?_ ?_)⟩, rfl⟩
              | trace_state
end
end df
end Go.Proofs.YtocehfhhmljejaaGreatDoor
