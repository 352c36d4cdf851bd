/-
  conf.printedValue.
-/
import Derived.Test.YtemiaognopgnnaaGreatDoorPn3
namespace Go.Proofs.YtemiaognopgnnaaGreatDoor
open Go.RowKit
set_option linter.unusedVariables false
set_option linter.unusedSimpArgs false
namespace pn
open rp
theorem fault_headP {v : Vu} (h : faultE v = 0) : headE v = 0 ∧ faultL v.items = 0 := by
  rw [faultE_eq] at h
  split at h
  · rename_i h1
    exact ⟨h1, h⟩
  · rename_i h1
    exact absurd h h1
theorem faultL_memP : ∀ (l : List Vu), faultL l = 0 → ∀ x ∈ l, faultE x = 0
  | [], _, x, hx => by cases hx
  | a :: l, h, x, hx => by
    rw [faultL] at h
    split at h
    · rename_i h1
      rcases List.mem_cons.1 hx with rfl | hx
      · exact h1
      · exact faultL_memP l h x hx
    · rename_i h1
      exact absurd h h1
theorem fault_memP {v : Vu} (h : faultE v = 0) {k : Nat} (hk : k < v.items.length) : faultE (v.items.getD k .zero) = 0 := faultL_memP _ (fault_headP h).2 _ (getD_mem _ _ _ hk)
/-- What is known of a value in which nothing is wrong. -/
theorem fault_facts {v : Vu} (h : faultE v = 0) : 0 ≤ v.kind ∧ v.kind ≤ 6 ∧ (v.kind = 6 → v.keys.length = v.items.length) ∧ (v.kind = 4 → 0 ≤ v.i ∧ v.i ≤ 84005) := by
  have h1 := (fault_headP h).1
  unfold headE at h1
  split at h1
  · cases h1
  · rename_i c1
    split at h1
    · cases h1
    · rename_i c2
      split at h1
      · cases h1
      · rename_i c3
        unfold unusedP at c2
        unfold badDayP at c3
        refine ⟨by omega, by omega, fun h6 => by omega, fun h4 => by omega⟩
theorem wt_le {v x : Vu} (h : x ∈ v.items) : x.wt ≤ v.wt := by
  have h1 : ∀ l : List Vu, x ∈ l → x.wt ≤ Vu.wtL l := by
    intro l
    induction l with
    | nil => intro h; cases h
    | cons y l ih =>
      intro h
      simp only [Vu.wtL]
      rcases List.mem_cons.1 h with rfl | h
      · omega
      · have := ih h; omega
  have h2 := h1 _ h
  have h3 := wt_parts v
  omega
theorem items_bd (v : Vu) (ind : List UInt8) (hv : v.i64) (k : Nat) (hlt : k < v.items.length) : (pvF ind true (v.items.take k)).length + 2 + (ind.length + 4 * lvl (v.items.getD k .zero) + 210) * (v.items.getD k .zero).wt ≤ (ind.length + 4 * lvl v + 210) * v.wt := by
  have hi : Vu.i64L v.items := by cases v; exact hv.2.2
  have h1 := pvF_len ind true (v.items.take k) (i64L_tk _ k hi)
  have h2 := wtL_tk v.items k hlt
  have h4 := lvlL_tk v.items k
  have h5 := lvl_mem v.items _ (getD_mem v.items .zero k hlt)
  have h6 := lvl_eq v
  have h7 := wt_parts v
  obtain ⟨C, hC⟩ : ∃ C, C = ind.length + 4 * lvl v + 210 := ⟨_, rfl⟩
  have g1 : (ind.length + 3 * lvlL (v.items.take k) + 201) * Vu.wtL (v.items.take k) ≤ C * Vu.wtL (v.items.take k) := Nat.mul_le_mul_right _ (by omega)
  have g2 : (ind.length + 4 * lvl (v.items.getD k .zero) + 210) * (v.items.getD k .zero).wt ≤ C * (v.items.getD k .zero).wt := Nat.mul_le_mul_right _ (by omega)
  have g4 : C * (1 + (Vu.wtL (v.items.take k) + (v.items.getD k .zero).wt)) ≤ C * v.wt := Nat.mul_le_mul_left _ (by omega)
  rw [Nat.mul_add, Nat.mul_add C (Vu.wtL (v.items.take k))] at g4
  rw [← hC]
  omega
section
variable (E : Env)
theorem printed_l (A B : Nat) (hAB : A ≠ B) (v : Vu) (ind : ByteArray) (a : List UInt8) (n : Nat) (hn : n = a.length) (hkl : v.keys.length = v.items.length) (hv : v.i64) (hil : v.items.length ≤ 1000000) (hb : a.length + (ind.size + 4 * lvl v + 206) * v.wt ≤ 10000000000000)
    (ih : ∀ x, x ∈ v.items → ∀ (a' : List UInt8) (n : Nat), n = a'.length → a'.length + (ind.size + 4 * lvl x + 210) * x.wt ≤ 10000000000000 → SpH (cx Tryz.prog mixed tyT_ok E) 71 [.own 23 1 0 n, encV x, dS ind] [(23, .row 5 n (rowB a'))] (.own 31 1 0 (a' ++ pvB ind.data.toList x).length) [(31, .row 5 (a' ++ pvB ind.data.toList x).length (rowB (a' ++ pvB ind.data.toList x)))]) :
    SpH (cx Tryz.prog mixed tyT_ok E) 40 [.own A 1 0 n, encV v, dS ind] [(A, .row 5 n (rowB a))] (.own B 1 0 (a ++ prB ind.data.toList v.keys v.items).length) [(B, .row 5 (a ++ prB ind.data.toList v.keys v.items).length (rowB (a ++ prB ind.data.toList v.keys v.items)))] := by
  subst hn
  have h2 := (printed_any E v ind a hkl hv hil hb ih).to2 2000 12 A B
  simpa only [D.renL, D.ren, renH, Ob.ren, ren2_l (show (2000 : Nat) ≠ 12 by decide) hAB, ren2_r, encV, encStrs] using h2
set_option maxRecDepth 100000
set_option maxHeartbeats 8000000 in
theorem printedValue_any (hP : ∀ w, E.G w → P10 w) : ∀ (N : Nat) (v : Vu) (ind : ByteArray) (a : List UInt8) (n : Nat) (A B : Nat), A ≠ B → n = a.length → SizeOf.sizeOf v < N → faultE v = 0 → v.i64 → cnt v ≤ 1000000 → v.wt ≤ 1000000000 → ind.size + 2 * lvl v ≤ 1000000 → a.length + (ind.size + 4 * lvl v + 210) * v.wt ≤ 10000000000000 →
    SpH (cx Tryz.prog mixed tyT_ok E) 71 [.own A 1 0 n, encV v, dS ind] [(A, .row 5 n (rowB a))] (.own B 1 0 (a ++ pvB ind.data.toList v).length) [(B, .row 5 (a ++ pvB ind.data.toList v).length (rowB (a ++ pvB ind.data.toList v)))]
  | 0, v, _, _, _, _, _, _, _, h, _, _, _, _, _, _ => by omega
  | N + 1, v, ind, a, n, A, B, hAB, hn, h, hf, hv, hc, hw, hind, hb => by
    subst hn
    have ih := fun x (hx : x ∈ v.items) ind' (a' : List UInt8) n A B hAB hn hfx => printedValue_any hP N x ind' a' n A B hAB hn (by have := items_lt v x hx; omega) hfx
    have hpl := pvB_len ind.data.toList v hv
    have hi0 : ind.size = ind.data.toList.length := by simp
    rw [← hi0] at hpl
    have hpl2 : (ind.size + 3 * lvl v + 200) * v.wt ≤ (ind.size + 4 * lvl v + 210) * v.wt := Nat.mul_le_mul_right _ (by omega)
    have hwp := wt_parts v
    suffices hs : SpH (cx Tryz.prog mixed tyT_ok E) 71 [.own 2000 1 0 a.length, encV v, dS ind] [(2000, .row 5 a.length (rowB a))] (.own 17 1 0 (a ++ pvB ind.data.toList v).length) [(17, .row 5 (a ++ pvB ind.data.toList v).length (rowB (a ++ pvB ind.data.toList v)))] by
      have h2 := hs.to2 2000 17 A B
      simpa only [D.renL, D.ren, renH, Ob.ren, ren2_l (show (2000 : Nat) ≠ 17 by decide) hAB, ren2_r, encV, encStrs] using h2
    have hp := pvB_eq ind.data.toList v
    by_cases c3 : v.kind = 3
    · rw [if_pos c3] at hp
      have h1 := quoted_sp E v.text (by omega)
      rw [hp]
      rw [hp] at hpl
      have hl := la1 a (quo v.text)
      have hql : (quo v.text).size = (quo v.text).data.toList.length := by simp
      generalize quo v.text = q at h1 hpl hl hql
      have h9 : ∀ i j, i < a.length + q.size → j < 1 → Dle (cx Tryz.prog mixed tyT_ok E) (if i < a.length then rowB a i j else .v (.int .u8 (bAt q (i - a.length)).toNat)) (rowB (a ++ q.data.toList) i j) := rb_app E (h := fun i j => .v (.int .u8 (bAt q i).toNat)) rfl (rb_self E) hql (rb_str E)
      refine SpH.body Tryz.func71 (by kernel_rfl) rfl (by kernel_rfl) (by kernel_rfl) (by kernel_rfl) ?_
      repeat' first
        | (refine codeW_cond rfl ?_; first | (refine condW_dec ?_ ?_ <;> intro _ <;> try (exfalso; omega)) | refine condW_not ?_ | (refine condW_bool ?_ ?_ <;> intro _ <;> try (exfalso; omega)))
        | (refine facW_intro ?_; intro _)
        | refine Or.inl ?_
        | ((conv => whnf); first | (refine condW_dec ?_ ?_ <;> intro _ <;> try (exfalso; omega)) | refine condW_not ?_ | (refine condW_bool ?_ ?_ <;> intro _ <;> try (exfalso; omega)) | (refine nbC_t (fun _ => ?_) ?_) | (refine nbC_f ?_ (fun _ => ?_)))
        | refine And.intro (by first | omega | (simp only [Int.toNat_natCast] at *; omega) | (simp only [Nat.reduceAdd, Int.cast_ofNat_Int, true_and, and_true]; omega)  | kernel_rfl) ?_
        | refine RegW.run ?_
        | refine ⟨_, h1, ?_⟩
        | fail
      all_goals first
        | exact ⟨[], [(17, 5, (a ++ q.data.toList).length, rowB (a ++ q.data.toList))], rfl, ⟨[(17, some 17)], ⟨by kernel_rfl, by kernel_rfl, by kernel_rfl, by kernel_rfl, by kernel_rfl, by kernel_rfl, by kernel_rfl⟩, (by repeat' first | (exact hl) | exact trivial | exact rfl | kernel_rfl | exact Dle.of_eq rfl | exact MLe.of_eq rfl | exact Dle.i (by omega) | exact Dle.i (by simp only [Int.toNat_natCast] at *; omega) | exact Dle.nil | exact Dle.rc Dle.nil | exact Option.some_ne_none _ | exact Or.inl rfl | exact Or.inr trivial | omega | (simp only [Int.toNat_natCast] at *; omega) | (intro _ _ _ _; exact Dle.of_eq rfl) | (intro i j hi hj; exact h9 i j hi hj) | refine And.intro ?_ ?_)⟩, rfl⟩
        | (exfalso; omega)
        | trace_state
    · rw [if_neg c3] at hp
      by_cases c5 : v.kind = 5
      · rw [if_pos c5] at hp
        have hz1 : a ++ [91] ++ pvF ind.data.toList true (v.items.take 0) = a ++ [91] := by simp [pvF]
        have hz : a.length + 1 = (a ++ [91] ++ pvF ind.data.toList true (v.items.take 0)).length := by rw [hz1]; exact la2 _ _
        have h9 : ∀ i j, i < a.length + 1 → j < 1 → Dle (cx Tryz.prog mixed tyT_ok E) (if i < a.length then rowB a i j else ([.v (.int .u8 91)] : List DD).getD ((i - a.length) * 1 + j) .opq) (rowB (a ++ [91] ++ pvF ind.data.toList true (v.items.take 0)) i j) := by
          rw [hz1]
          exact rb_app E (y := [91]) (h := fun i j => ([.v (.int .u8 91)] : List DD).getD (i * 1 + j) .opq) rfl (rb_self E) rfl (rb_lit E 91 91 rfl)
        have hil : v.items.length ≤ 1000000 := by have h1 := len_le_cntL v.items; have h2 := cnt_eq v; omega
        refine SpH.body Tryz.func71 (by kernel_rfl) rfl (by kernel_rfl) (by kernel_rfl) (by kernel_rfl) ?_
        repeat' first
          | (refine codeW_cond rfl ?_; first | (refine condW_dec ?_ ?_ <;> intro _ <;> try (exfalso; omega)) | refine condW_not ?_ | (refine condW_bool ?_ ?_ <;> intro _ <;> try (exfalso; omega)))
          | (refine facW_intro ?_; intro _)
          | refine Or.inl ?_
          | ((conv => whnf); first | (refine condW_dec ?_ ?_ <;> intro _ <;> try (exfalso; omega)) | refine condW_not ?_ | (refine condW_bool ?_ ?_ <;> intro _ <;> try (exfalso; omega)) | (refine nbC_t (fun _ => ?_) ?_) | (refine nbC_f ?_ (fun _ => ?_)))
          | refine And.intro (by first | omega | (simp only [Int.toNat_natCast] at *; omega) | (simp only [Nat.reduceAdd, Int.cast_ofNat_Int, true_and, and_true]; omega)  | kernel_rfl) ?_
          | refine RegW.run ?_
          | fail
        refine ⟨Nat, fun q => [(26, i64 q), (0, .own 26 1 0 (a ++ [91] ++ pvF ind.data.toList true (v.items.take q)).length)], fun q => [], [4], fun q => [(26, 5, (a ++ [91] ++ pvF ind.data.toList true (v.items.take q)).length, rowB (a ++ [91] ++ pvF ind.data.toList true (v.items.take q)))], fun q => q ≤ v.items.length, fun q => v.items.length - q, ⟨0, by omega, ⟨[(26, some 22)], ⟨by kernel_rfl, by kernel_rfl, by kernel_rfl, by kernel_rfl, by kernel_rfl, by kernel_rfl, by kernel_rfl⟩, (by repeat' first | ((first | exact hz | (intro i j hi hj; exact h9 i j hi hj))) | exact trivial | exact rfl | kernel_rfl | exact Dle.of_eq rfl | exact MLe.of_eq rfl | exact Dle.i (by omega) | exact Dle.i (by simp only [Int.toNat_natCast] at *; omega) | exact Dle.nil | exact Dle.rc Dle.nil | exact Option.some_ne_none _ | exact Or.inl rfl | exact Or.inr trivial | omega | (simp only [Int.toNat_natCast] at *; omega) | (intro _ _ _ _; exact Dle.of_eq rfl) | refine And.intro ?_ ?_)⟩⟩, fun q hq => ?_⟩
        have hq2 : q ≤ v.items.length := hq
        by_cases hlt : q < v.items.length
        · have hm := getD_mem v.items .zero q hlt
          have hib := items_bd v ind.data.toList hv q hlt
          rw [← hi0] at hib
          have hgl : (a ++ [91] ++ pvF ind.data.toList true (v.items.take q)).length = a.length + 1 + (pvF ind.data.toList true (v.items.take q)).length := by rw [List.length_append, ← la2]
          have g2 := cnt_mem v.items _ hm
          have g5 := cnt_eq v
          have g6 := wtL_tk v.items q hlt
          have g7 := lvl_mem v.items _ hm
          have g8 := lvl_eq v
          have ha := ih (v.items.getD q .zero) hm ind
          have htk := pvF_take ind.data.toList v.items q hlt
          by_cases h0 : q = 0
          · rw [if_pos h0, List.append_nil] at htk
            have h1 := ha (a ++ [91] ++ pvF ind.data.toList true (v.items.take q)) (a ++ [91] ++ pvF ind.data.toList true (v.items.take q)).length 26 39 (by decide) rfl (fault_memP hf hlt) (i64_mem hv hm) (by omega) (by omega) (by omega) (by omega)
            have e2 : (a ++ [91] ++ pvF ind.data.toList true (v.items.take (q + 1))) = (a ++ [91] ++ pvF ind.data.toList true (v.items.take q)) ++ pvB ind.data.toList (v.items.getD q .zero) := by rw [htk]; simp only [List.append_assoc]
            have e3 := (congrArg List.length e2).symm
            repeat' first
              | refine Or.inr ⟨_, _, _, h1, by kernel_rfl, (by repeat' first | exact trivial | exact rfl | kernel_rfl | exact Dle.of_eq rfl | exact MLe.of_eq rfl | exact Dle.i (by omega) | exact Dle.i (by simp only [Int.toNat_natCast] at *; omega) | exact Dle.nil | exact Dle.rc Dle.nil | exact Option.some_ne_none _ | exact Or.inl rfl | exact Or.inr trivial | omega | (simp only [Int.toNat_natCast] at *; omega) | (intro _ _ _ _; exact Dle.of_eq rfl) | refine And.intro ?_ ?_), ?_⟩
              | (refine codeW_cond rfl ?_; first | (refine condW_dec ?_ ?_ <;> intro _ <;> try (exfalso; omega)) | refine condW_not ?_ | (refine condW_bool ?_ ?_ <;> intro _ <;> try (exfalso; omega)))
              | (refine facW_intro ?_; intro _)
              | refine Or.inl ?_
              | ((conv => whnf); first | (refine condW_dec ?_ ?_ <;> intro _ <;> try (exfalso; omega)) | refine condW_not ?_ | (refine condW_bool ?_ ?_ <;> intro _ <;> try (exfalso; omega)) | (refine nbC_t (fun _ => ?_) ?_) | (refine nbC_f ?_ (fun _ => ?_)))
              | refine And.intro (by first | omega | (simp only [Int.toNat_natCast] at *; omega) | (simp only [Nat.reduceAdd, Int.cast_ofNat_Int, true_and, and_true]; omega)  | kernel_rfl) ?_
              | refine RegW.run ?_
              | fail
            all_goals first
              | (exfalso; omega)
              | exact ⟨q + 1, by omega, ⟨[(26, some 39)], ⟨by kernel_rfl, by kernel_rfl, by kernel_rfl, by kernel_rfl, by kernel_rfl, by kernel_rfl, by kernel_rfl⟩, (by repeat' first | (exact e3) | exact trivial | exact rfl | kernel_rfl | exact Dle.of_eq rfl | exact MLe.of_eq rfl | exact Dle.i (by omega) | exact Dle.i (by simp only [Int.toNat_natCast] at *; omega) | exact Dle.nil | exact Dle.rc Dle.nil | exact Option.some_ne_none _ | exact Or.inl rfl | exact Or.inr trivial | omega | (simp only [Int.toNat_natCast] at *; omega) | (intro _ _ _ _; exact Dle.of_eq rfl) | (intro i j hi hj; (rw [e2]; exact Dle.refl _ _)) | refine And.intro ?_ ?_)⟩, by first | omega | (dsimp only; omega)⟩
              | trace_state
          · rw [if_neg h0] at htk
            have hn3 : (a ++ [91] ++ pvF ind.data.toList true (v.items.take q)).length + 1 = ((a ++ [91] ++ pvF ind.data.toList true (v.items.take q)) ++ [32]).length := la2 _ _
            have h1 := ha ((a ++ [91] ++ pvF ind.data.toList true (v.items.take q)) ++ [32]) _ 35 39 (by decide) hn3 (fault_memP hf hlt) (i64_mem hv hm) (by omega) (by omega) (by omega) (by rw [← hn3]; omega)
            have h8 : ∀ i j, i < (a ++ [91] ++ pvF ind.data.toList true (v.items.take q)).length + 1 → j < 1 → Dle (cx Tryz.prog mixed tyT_ok E) (if i < (a ++ [91] ++ pvF ind.data.toList true (v.items.take q)).length then rowB (a ++ [91] ++ pvF ind.data.toList true (v.items.take q)) i j else ([.v (.int .u8 32)] : List DD).getD ((i - (a ++ [91] ++ pvF ind.data.toList true (v.items.take q)).length) * 1 + j) .opq) (rowB ((a ++ [91] ++ pvF ind.data.toList true (v.items.take q)) ++ [32]) i j) := rb_app E (y := [32]) (h := fun i j => ([.v (.int .u8 32)] : List DD).getD (i * 1 + j) .opq) rfl (rb_self E) rfl (rb_lit E 32 32 rfl)
            have e2 : (a ++ [91] ++ pvF ind.data.toList true (v.items.take (q + 1))) = (a ++ [91] ++ pvF ind.data.toList true (v.items.take q)) ++ [32] ++ pvB ind.data.toList (v.items.getD q .zero) := by rw [htk]; simp only [List.append_assoc]
            have e3 := (congrArg List.length e2).symm
            repeat' first
              | refine Or.inr ⟨_, _, _, h1, by kernel_rfl, (by repeat' first | (exact h8) | exact trivial | exact rfl | kernel_rfl | exact Dle.of_eq rfl | exact MLe.of_eq rfl | exact Dle.i (by omega) | exact Dle.i (by simp only [Int.toNat_natCast] at *; omega) | exact Dle.nil | exact Dle.rc Dle.nil | exact Option.some_ne_none _ | exact Or.inl rfl | exact Or.inr trivial | omega | (simp only [Int.toNat_natCast] at *; omega) | (intro _ _ _ _; exact Dle.of_eq rfl) | refine And.intro ?_ ?_), ?_⟩
              | (refine codeW_cond rfl ?_; first | (refine condW_dec ?_ ?_ <;> intro _ <;> try (exfalso; omega)) | refine condW_not ?_ | (refine condW_bool ?_ ?_ <;> intro _ <;> try (exfalso; omega)))
              | (refine facW_intro ?_; intro _)
              | refine Or.inl ?_
              | ((conv => whnf); first | (refine condW_dec ?_ ?_ <;> intro _ <;> try (exfalso; omega)) | refine condW_not ?_ | (refine condW_bool ?_ ?_ <;> intro _ <;> try (exfalso; omega)) | (refine nbC_t (fun _ => ?_) ?_) | (refine nbC_f ?_ (fun _ => ?_)))
              | refine And.intro (by first | omega | (simp only [Int.toNat_natCast] at *; omega) | (simp only [Nat.reduceAdd, Int.cast_ofNat_Int, true_and, and_true]; omega)  | kernel_rfl) ?_
              | refine RegW.run ?_
              | fail
            all_goals first
              | (exfalso; omega)
              | exact ⟨q + 1, by omega, ⟨[(26, some 39)], ⟨by kernel_rfl, by kernel_rfl, by kernel_rfl, by kernel_rfl, by kernel_rfl, by kernel_rfl, by kernel_rfl⟩, (by repeat' first | (exact e3) | exact trivial | exact rfl | kernel_rfl | exact Dle.of_eq rfl | exact MLe.of_eq rfl | exact Dle.i (by omega) | exact Dle.i (by simp only [Int.toNat_natCast] at *; omega) | exact Dle.nil | exact Dle.rc Dle.nil | exact Option.some_ne_none _ | exact Or.inl rfl | exact Or.inr trivial | omega | (simp only [Int.toNat_natCast] at *; omega) | (intro _ _ _ _; exact Dle.of_eq rfl) | (intro i j hi hj; (rw [e2]; exact Dle.refl _ _)) | refine And.intro ?_ ?_)⟩, by first | omega | (dsimp only; omega)⟩
              | trace_state
        · obtain rfl : q = v.items.length := by omega
          have e5 : v.items.take v.items.length = v.items := List.take_length
          have e6 : a ++ pvB ind.data.toList v = (a ++ [91] ++ pvF ind.data.toList true (v.items.take v.items.length)) ++ [93] := by rw [hp, e5]; simp only [List.append_assoc]
          have e7 : (a ++ [91] ++ pvF ind.data.toList true (v.items.take v.items.length)).length + 1 = (a ++ pvB ind.data.toList v).length := by rw [e6]; exact la2 _ _
          have hln : (a ++ [91] ++ pvF ind.data.toList true (v.items.take v.items.length)).length ≤ 10000000000000 := by
            have e8 : (a ++ pvB ind.data.toList v).length = a.length + (pvB ind.data.toList v).length := List.length_append
            omega
          have h8 : ∀ i j, i < (a ++ [91] ++ pvF ind.data.toList true (v.items.take v.items.length)).length + 1 → j < 1 → Dle (cx Tryz.prog mixed tyT_ok E) (if i < (a ++ [91] ++ pvF ind.data.toList true (v.items.take v.items.length)).length then rowB (a ++ [91] ++ pvF ind.data.toList true (v.items.take v.items.length)) i j else ([.v (.int .u8 93)] : List DD).getD ((i - (a ++ [91] ++ pvF ind.data.toList true (v.items.take v.items.length)).length) * 1 + j) .opq) (rowB (a ++ pvB ind.data.toList v) i j) := by
            rw [e6]
            exact rb_app E (y := [93]) (h := fun i j => ([.v (.int .u8 93)] : List DD).getD (i * 1 + j) .opq) rfl (rb_self E) rfl (rb_lit E 93 93 rfl)
          repeat' first
            | (refine codeW_cond rfl ?_; first | (refine condW_dec ?_ ?_ <;> intro _ <;> try (exfalso; omega)) | refine condW_not ?_ | (refine condW_bool ?_ ?_ <;> intro _ <;> try (exfalso; omega)))
            | (refine facW_intro ?_; intro _)
            | refine Or.inl ?_
            | ((conv => whnf); first | (refine condW_dec ?_ ?_ <;> intro _ <;> try (exfalso; omega)) | refine condW_not ?_ | (refine condW_bool ?_ ?_ <;> intro _ <;> try (exfalso; omega)) | (refine nbC_t (fun _ => ?_) ?_) | (refine nbC_f ?_ (fun _ => ?_)))
            | refine And.intro (by first | omega | (simp only [Int.toNat_natCast] at *; omega) | (simp only [Nat.reduceAdd, Int.cast_ofNat_Int, true_and, and_true]; omega)  | kernel_rfl) ?_
            | refine RegW.run ?_
            | fail
          all_goals first
            | (exfalso; omega)
            | exact ⟨[], [(17, 5, (a ++ pvB ind.data.toList v).length, rowB (a ++ pvB ind.data.toList v))], rfl, ⟨[(17, some 43)], ⟨by kernel_rfl, by kernel_rfl, by kernel_rfl, by kernel_rfl, by kernel_rfl, by kernel_rfl, by kernel_rfl⟩, (by repeat' first | (exact e7) | exact trivial | exact rfl | kernel_rfl | exact Dle.of_eq rfl | exact MLe.of_eq rfl | exact Dle.i (by omega) | exact Dle.i (by simp only [Int.toNat_natCast] at *; omega) | exact Dle.nil | exact Dle.rc Dle.nil | exact Option.some_ne_none _ | exact Or.inl rfl | exact Or.inr trivial | omega | (simp only [Int.toNat_natCast] at *; omega) | (intro _ _ _ _; exact Dle.of_eq rfl) | (intro i j hi hj; exact h8 i j hi hj) | refine And.intro ?_ ?_)⟩, rfl⟩
            | trace_state
      · rw [if_neg c5] at hp
        have hff := fault_facts hf
        by_cases c6 : v.kind = 6
        · rw [if_pos c6] at hp
          by_cases ck : v.keys.length = 0
          · rw [if_pos ck] at hp
            have e6 : a ++ pvB ind.data.toList v = a ++ (⟨#[123, 125]⟩ : ByteArray).data.toList := by rw [hp]
            have e7 : a.length + (⟨#[123, 125]⟩ : ByteArray).size = (a ++ pvB ind.data.toList v).length := by rw [e6]; exact la1 _ _
            have hz2 : (⟨#[123, 125]⟩ : ByteArray).size = 2 := rfl
            have h8 : ∀ i j, i < a.length + (⟨#[123, 125]⟩ : ByteArray).size → j < 1 → Dle (cx Tryz.prog mixed tyT_ok E) (if i < a.length then rowB a i j else .v (.int .u8 (bAt ⟨#[123, 125]⟩ (i - a.length)).toNat)) (rowB (a ++ pvB ind.data.toList v) i j) := by
              rw [e6]
              exact rb_app E (h := fun i j => .v (.int .u8 (bAt ⟨#[123, 125]⟩ i).toNat)) rfl (rb_self E) rfl (rb_str E)
            refine SpH.body Tryz.func71 (by kernel_rfl) rfl (by kernel_rfl) (by kernel_rfl) (by kernel_rfl) ?_
            repeat' first
              | (refine codeW_cond rfl ?_; first | (refine condW_dec ?_ ?_ <;> intro _ <;> try (exfalso; omega)) | refine condW_not ?_ | (refine condW_bool ?_ ?_ <;> intro _ <;> try (exfalso; omega)))
              | (refine facW_intro ?_; intro _)
              | refine Or.inl ?_
              | ((conv => whnf); first | (refine condW_dec ?_ ?_ <;> intro _ <;> try (exfalso; omega)) | refine condW_not ?_ | (refine condW_bool ?_ ?_ <;> intro _ <;> try (exfalso; omega)) | (refine nbC_t (fun _ => ?_) ?_) | (refine nbC_f ?_ (fun _ => ?_)))
              | refine And.intro (by first | omega | (simp only [Int.toNat_natCast] at *; omega) | (simp only [Nat.reduceAdd, Int.cast_ofNat_Int, true_and, and_true]; omega)  | kernel_rfl) ?_
              | refine RegW.run ?_
              | fail
            all_goals first
              | (exfalso; omega)
              | exact ⟨[], [(17, 5, (a ++ pvB ind.data.toList v).length, rowB (a ++ pvB ind.data.toList v))], rfl, ⟨[(17, some 51)], ⟨by kernel_rfl, by kernel_rfl, by kernel_rfl, by kernel_rfl, by kernel_rfl, by kernel_rfl, by kernel_rfl⟩, (by repeat' first | (exact e7) | exact trivial | exact rfl | kernel_rfl | exact Dle.of_eq rfl | exact MLe.of_eq rfl | exact Dle.i (by omega) | exact Dle.i (by simp only [Int.toNat_natCast] at *; omega) | exact Dle.nil | exact Dle.rc Dle.nil | exact Option.some_ne_none _ | exact Or.inl rfl | exact Or.inr trivial | omega | (simp only [Int.toNat_natCast] at *; omega) | (intro _ _ _ _; exact Dle.of_eq rfl) | (intro i j hi hj; exact h8 i j hi hj) | refine And.intro ?_ ?_)⟩, rfl⟩
              | trace_state
          · rw [if_neg ck] at hp
            have hkl := hff.2.2.1 c6
            have hil : v.items.length ≤ 1000000 := by have h1 := len_le_cntL v.items; have h2 := cnt_eq v; omega
            have hz2 : (⟨#[123, 10]⟩ : ByteArray).size = 2 := rfl
            have hz3 : (⟨#[32, 32]⟩ : ByteArray).size = 2 := rfl
            have hi2 : (ind ++ ⟨#[32, 32]⟩).size = ind.size + 2 := by rw [ByteArray.size_append]; rfl
            have hi3 : (ind ++ ⟨#[32, 32]⟩).data.toList = ind.data.toList ++ [32, 32] := by simp
            have hn1 : a.length + (⟨#[123, 10]⟩ : ByteArray).size = (a ++ (⟨#[123, 10]⟩ : ByteArray).data.toList).length := la1 _ _
            have hwp1 : 1 ≤ v.wt := by omega
            have hwm : (ind.size + 2 + 4 * lvl v + 206) * v.wt + 2 * v.wt = (ind.size + 4 * lvl v + 210) * v.wt := by rw [← Nat.add_mul]; congr 1; omega
            have hpr := printed_l E 53 58 (by decide) v (ind ++ ⟨#[32, 32]⟩) (a ++ (⟨#[123, 10]⟩ : ByteArray).data.toList) _ hn1 hkl hv hil (by rw [← hn1, hi2]; omega) (fun x hx a' n hn hb' => ih x hx (ind ++ ⟨#[32, 32]⟩) a' n 23 31 (by decide) hn (faultL_memP _ (fault_headP hf).2 x hx) (i64_mem hv hx) (by have := cnt_mem v.items x hx; have := cnt_eq v; omega) (by have h2 : x.wt ≤ v.wt := wt_le hx; omega) (by have h3 := lvl_mem v.items x hx; have h4 := lvl_eq v; omega) hb')
            have h8 : ∀ i j, i < a.length + (⟨#[123, 10]⟩ : ByteArray).size → j < 1 → Dle (cx Tryz.prog mixed tyT_ok E) (if i < a.length then rowB a i j else .v (.int .u8 (bAt ⟨#[123, 10]⟩ (i - a.length)).toNat)) (rowB (a ++ (⟨#[123, 10]⟩ : ByteArray).data.toList) i j) := rb_app E (h := fun i j => .v (.int .u8 (bAt ⟨#[123, 10]⟩ i).toNat)) rfl (rb_self E) rfl (rb_str E)
            have e6 : a ++ pvB ind.data.toList v = (a ++ (⟨#[123, 10]⟩ : ByteArray).data.toList ++ prB (ind ++ ⟨#[32, 32]⟩).data.toList v.keys v.items) ++ ind.data.toList ++ [125] := by rw [hp, hi3]; simp only [List.append_assoc]
            have hn2 : (a ++ (⟨#[123, 10]⟩ : ByteArray).data.toList ++ prB (ind ++ ⟨#[32, 32]⟩).data.toList v.keys v.items).length + ind.size = ((a ++ (⟨#[123, 10]⟩ : ByteArray).data.toList ++ prB (ind ++ ⟨#[32, 32]⟩).data.toList v.keys v.items) ++ ind.data.toList).length := la1 _ _
            have hn3 : (a ++ (⟨#[123, 10]⟩ : ByteArray).data.toList ++ prB (ind ++ ⟨#[32, 32]⟩).data.toList v.keys v.items).length + ind.size + 1 = (a ++ pvB ind.data.toList v).length := by rw [e6]; exact (congrArg (· + 1) hn2).trans (la2 _ _)
            have hln : (a ++ (⟨#[123, 10]⟩ : ByteArray).data.toList ++ prB (ind ++ ⟨#[32, 32]⟩).data.toList v.keys v.items).length + ind.size + 1 ≤ 10000000000000 := by
              have e8 : (a ++ pvB ind.data.toList v).length = a.length + (pvB ind.data.toList v).length := List.length_append
              omega
            have h9 : ∀ i j, i < (a ++ (⟨#[123, 10]⟩ : ByteArray).data.toList ++ prB (ind ++ ⟨#[32, 32]⟩).data.toList v.keys v.items).length + ind.size + 1 → j < 1 → Dle (cx Tryz.prog mixed tyT_ok E) (if i < (a ++ (⟨#[123, 10]⟩ : ByteArray).data.toList ++ prB (ind ++ ⟨#[32, 32]⟩).data.toList v.keys v.items).length + ind.size then (if i < (a ++ (⟨#[123, 10]⟩ : ByteArray).data.toList ++ prB (ind ++ ⟨#[32, 32]⟩).data.toList v.keys v.items).length then rowB (a ++ (⟨#[123, 10]⟩ : ByteArray).data.toList ++ prB (ind ++ ⟨#[32, 32]⟩).data.toList v.keys v.items) i j else .v (.int .u8 (bAt ind (i - (a ++ (⟨#[123, 10]⟩ : ByteArray).data.toList ++ prB (ind ++ ⟨#[32, 32]⟩).data.toList v.keys v.items).length)).toNat)) else ([.v (.int .u8 125)] : List DD).getD ((i - ((a ++ (⟨#[123, 10]⟩ : ByteArray).data.toList ++ prB (ind ++ ⟨#[32, 32]⟩).data.toList v.keys v.items).length + ind.size)) * 1 + j) .opq) (rowB (a ++ pvB ind.data.toList v) i j) := by
              rw [e6]
              exact rb_app E (y := [125]) (h := fun i j => ([.v (.int .u8 125)] : List DD).getD (i * 1 + j) .opq) hn2 (rb_app E (h := fun i j => .v (.int .u8 (bAt ind i).toNat)) rfl (rb_self E) hi0 (rb_str E)) rfl (rb_lit E 125 125 rfl)
            refine SpH.body Tryz.func71 (by kernel_rfl) rfl (by kernel_rfl) (by kernel_rfl) (by kernel_rfl) ?_
            repeat' first
              | refine Or.inr ⟨_, _, _, hpr, by kernel_rfl, (by repeat' first | (exact h8) | exact trivial | exact rfl | kernel_rfl | exact Dle.of_eq rfl | exact MLe.of_eq rfl | exact Dle.i (by omega) | exact Dle.i (by simp only [Int.toNat_natCast] at *; omega) | exact Dle.nil | exact Dle.rc Dle.nil | exact Option.some_ne_none _ | exact Or.inl rfl | exact Or.inr trivial | omega | (simp only [Int.toNat_natCast] at *; omega) | (intro _ _ _ _; exact Dle.of_eq rfl) | refine And.intro ?_ ?_), ?_⟩
              | (refine codeW_cond rfl ?_; first | (refine condW_dec ?_ ?_ <;> intro _ <;> try (exfalso; omega)) | refine condW_not ?_ | (refine condW_bool ?_ ?_ <;> intro _ <;> try (exfalso; omega)))
              | (refine facW_intro ?_; intro _)
              | refine Or.inl ?_
              | ((conv => whnf); first | (refine condW_dec ?_ ?_ <;> intro _ <;> try (exfalso; omega)) | refine condW_not ?_ | (refine condW_bool ?_ ?_ <;> intro _ <;> try (exfalso; omega)) | (refine nbC_t (fun _ => ?_) ?_) | (refine nbC_f ?_ (fun _ => ?_)))
              | refine And.intro (by first | omega | (simp only [Int.toNat_natCast] at *; omega) | (simp only [Nat.reduceAdd, Int.cast_ofNat_Int, true_and, and_true]; omega)  | kernel_rfl) ?_
              | refine RegW.run ?_
              | fail
            all_goals first
              | (exfalso; omega)
              | exact ⟨[], [(17, 5, (a ++ pvB ind.data.toList v).length, rowB (a ++ pvB ind.data.toList v))], rfl, ⟨[(17, some 63)], ⟨by kernel_rfl, by kernel_rfl, by kernel_rfl, by kernel_rfl, by kernel_rfl, by kernel_rfl, by kernel_rfl⟩, (by repeat' first | (exact hn3) | exact trivial | exact rfl | kernel_rfl | exact Dle.of_eq rfl | exact MLe.of_eq rfl | exact Dle.i (by omega) | exact Dle.i (by simp only [Int.toNat_natCast] at *; omega) | exact Dle.nil | exact Dle.rc Dle.nil | exact Option.some_ne_none _ | exact Or.inl rfl | exact Or.inr trivial | omega | (simp only [Int.toNat_natCast] at *; omega) | (intro _ _ _ _; exact Dle.of_eq rfl) | (intro i j hi hj; exact h9 i j hi hj) | refine And.intro ?_ ?_)⟩, rfl⟩
              | trace_state
        · rw [if_neg c6] at hp
          have h1 := word_sp E hP v hv hff.2.2.2
          rw [hp]
          rw [hp] at hpl
          have hl := la1 a (wordS v)
          have hql : (wordS v).size = (wordS v).data.toList.length := by simp
          generalize wordS v = q at h1 hpl hl hql
          have h9 : ∀ i j, i < a.length + q.size → j < 1 → Dle (cx Tryz.prog mixed tyT_ok E) (if i < a.length then rowB a i j else .v (.int .u8 (bAt q (i - a.length)).toNat)) (rowB (a ++ q.data.toList) i j) := rb_app E (h := fun i j => .v (.int .u8 (bAt q i).toNat)) rfl (rb_self E) hql (rb_str E)
          refine SpH.body Tryz.func71 (by kernel_rfl) rfl (by kernel_rfl) (by kernel_rfl) (by kernel_rfl) ?_
          repeat' first
            | (refine codeW_cond rfl ?_; first | (refine condW_dec ?_ ?_ <;> intro _ <;> try (exfalso; omega)) | refine condW_not ?_ | (refine condW_bool ?_ ?_ <;> intro _ <;> try (exfalso; omega)))
            | (refine facW_intro ?_; intro _)
            | refine Or.inl ?_
            | ((conv => whnf); first | (refine condW_dec ?_ ?_ <;> intro _ <;> try (exfalso; omega)) | refine condW_not ?_ | (refine condW_bool ?_ ?_ <;> intro _ <;> try (exfalso; omega)) | (refine nbC_t (fun _ => ?_) ?_) | (refine nbC_f ?_ (fun _ => ?_)))
            | refine And.intro (by first | omega | (simp only [Int.toNat_natCast] at *; omega) | (simp only [Nat.reduceAdd, Int.cast_ofNat_Int, true_and, and_true]; omega)  | kernel_rfl) ?_
            | refine RegW.run ?_
            | refine ⟨_, h1, ?_⟩
            | fail
          all_goals first
            | (exfalso; omega)
            | exact ⟨[], [(17, 5, (a ++ q.data.toList).length, rowB (a ++ q.data.toList))], rfl, ⟨[(17, some 67)], ⟨by kernel_rfl, by kernel_rfl, by kernel_rfl, by kernel_rfl, by kernel_rfl, by kernel_rfl, by kernel_rfl⟩, (by repeat' first | (exact hl) | exact trivial | exact rfl | kernel_rfl | exact Dle.of_eq rfl | exact MLe.of_eq rfl | exact Dle.i (by omega) | exact Dle.i (by simp only [Int.toNat_natCast] at *; omega) | exact Dle.nil | exact Dle.rc Dle.nil | exact Option.some_ne_none _ | exact Or.inl rfl | exact Or.inr trivial | omega | (simp only [Int.toNat_natCast] at *; omega) | (intro _ _ _ _; exact Dle.of_eq rfl) | (intro i j hi hj; exact h9 i j hi hj) | refine And.intro ?_ ?_)⟩, rfl⟩
            | trace_state
end
end pn
end Go.Proofs.YtemiaognopgnnaaGreatDoor
