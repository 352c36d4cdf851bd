/-
  Source sets of images: the reference's side, the law.
-/
import Derived.Test.YtagggnjcpjodjaaDoorPb1
namespace Go.Proofs.YtagggnjcpjodjaaDoor
open Go.RowKit
set_option linter.unusedVariables false
set_option linter.unusedSimpArgs false
namespace srcset
/-- The width and the widths. -/
def wws (w : Int) (l : List Int) : List Int := w :: l
theorem wide_all {w : Int} {l : List Int} : wideL (wws w l) (l.length + 1) = true ↔ wideB w = true ∧ wideL l l.length = true := by
  unfold wideL
  rw [allN_iff, allN_iff]
  constructor
  · intro h
    exact ⟨h 0 (by omega), fun k hk => h (k + 1) (by omega)⟩
  · rintro ⟨h1, h2⟩ k hk
    match k, hk with
    | 0, _ => exact h1
    | k + 1, hk => exact h2 k (by omega)
section
variable (E : Env)
set_option maxRecDepth 100000
theorem rowW (w : Int) (l : List Int) (i j : Nat) (hj : j < 1) : Dle (cx Tryd.prog mixed tyT_ok E) (if i < 1 then ([.v (.int .i64 w)] : List DD).getD (i * 1 + j) .opq else i64 (l.getD (i - 1) 0)) (i64 ((wws w l).getD i 0)) := by
  obtain rfl : j = 0 := by omega
  match i with
  | 0 => exact Dle.refl _ _
  | i + 1 =>
    rw [if_neg (by omega)]
    exact Dle.refl _ _
theorem add_75 (hP : ∀ w, E.G w → P10 w) (a : ByteArray) (n : Int) (q : List ByteArray) (ha : a.size ≤ 1000000) (hn : wideB n = true) (hq : q.length ≤ 1000000) :
    SpH (cx Tryd.prog mixed tyT_ok E) 18 [i64 n, .ptr 12 0, .ptr 3 0] [(12, .cells [.own 66 1 0 q.length]), (66, .row 9 q.length (rowS q)), (3, .cells [dS a])] (.tup []) [(12, .cells [.own 75 1 0 (q ++ [srcT a n]).length]), (3, .cells [dS a]), (75, .row 9 (q ++ [srcT a n]).length (rowS (q ++ [srcT a n])))] := by
  have h := (((add_sp E hP a n q ha hn hq).to2 2000 16 66 75).swap 1012 12).swap 1003 3
  have e1 : swp 1003 3 (swp 1012 12 (ren2 2000 16 66 75 1012)) = 12 := by decide
  have e2 : swp 1003 3 (swp 1012 12 (ren2 2000 16 66 75 1003)) = 3 := by decide
  have e3 : swp 1003 3 (swp 1012 12 (ren2 2000 16 66 75 2000)) = 66 := by decide
  have e4 : swp 1003 3 (swp 1012 12 (ren2 2000 16 66 75 16)) = 75 := by decide
  simpa only [D.renL, D.ren, renH, Ob.ren, List.map_cons, List.map_nil, e1, e2, e3, e4] using h
theorem add_83 (hP : ∀ w, E.G w → P10 w) (a : ByteArray) (n : Int) (q : List ByteArray) (ha : a.size ≤ 1000000) (hn : wideB n = true) (hq : q.length ≤ 1000000) :
    SpH (cx Tryd.prog mixed tyT_ok E) 18 [i64 n, .ptr 12 0, .ptr 3 0] [(12, .cells [.own 66 1 0 q.length]), (66, .row 9 q.length (rowS q)), (3, .cells [dS a])] (.tup []) [(12, .cells [.own 83 1 0 (q ++ [srcT a n]).length]), (3, .cells [dS a]), (83, .row 9 (q ++ [srcT a n]).length (rowS (q ++ [srcT a n])))] := by
  have h := (((add_sp E hP a n q ha hn hq).to2 2000 16 66 83).swap 1012 12).swap 1003 3
  have e1 : swp 1003 3 (swp 1012 12 (ren2 2000 16 66 83 1012)) = 12 := by decide
  have e2 : swp 1003 3 (swp 1012 12 (ren2 2000 16 66 83 1003)) = 3 := by decide
  have e3 : swp 1003 3 (swp 1012 12 (ren2 2000 16 66 83 2000)) = 66 := by decide
  have e4 : swp 1003 3 (swp 1012 12 (ren2 2000 16 66 83 16)) = 83 := by decide
  simpa only [D.renL, D.ren, renH, Ob.ren, List.map_cons, List.map_nil, e1, e2, e3, e4] using h
set_option maxHeartbeats 8000000 in
theorem sourceSetOf_sp (hP : ∀ w, E.G w → P10 w) (hML : ∀ w, E.G w → ML w) (a : ByteArray) (w : Int) (l : List Int) (hll : l.length ≤ 100000000000000) : Sp (cx Tryd.prog mixed tyT_ok E) 7 [dS a, i64 w, .sl 1 8 l.length (fun i _ => i64 (l.getD i 0))] (encR (srcR a w l)) := by
  have h1 := pre_sp E a ⟨#[47]⟩
  have h2 := r_isPath_sp E hML (a.extract 1 a.size)
  have h3 := indexI_sp E l w (by omega)
  obtain ⟨r, hr⟩ : ∃ r, r = srcR a w l := ⟨_, rfl⟩
  rw [← hr]
  unfold srcR at hr
  have hend : ∀ (e : Res) (c : Int), e = errR c → Dle (cx Tryd.prog mixed tyT_ok E) (.tup [dS ⟨#[]⟩, i64 c]) (encR e) := fun e c h => by rw [h]; exact Dle.refl _ _
  by_cases hp : preS a ⟨#[47]⟩ = true
  · have h4 := trimP_sp E hp
    rw [hp] at h1
    by_cases hq : pathB (a.extract 1 a.size) = true
    · rw [if_neg (fun h => h ⟨hp, hq⟩)] at hr
      rw [hq] at h2
      have ha : a.size ≤ 1000000 := by
        have : ¬ (200 : Int) < (a.extract 1 a.size).size := fun h => by rw [path_long h] at hq; cases hq
        rw [ByteArray.size_extract] at this
        omega
      by_cases hL : 12 < l.length
      · rw [if_pos hL] at hr
        refine Sp.body Tryd.func7 (by kernel_rfl) rfl (by kernel_rfl) (by kernel_rfl) (by kernel_rfl) ?_
        repeat' first
          | (refine facW_intro ?_; intro _)
          | refine Or.inl ?_
          | ((conv => whnf); first | (refine condW_dec ?_ ?_ <;> intro _ <;> try (exfalso; omega)) | refine condW_not ?_ | (refine condW_bool ?_ ?_ <;> intro _ <;> try (exfalso; omega)) | (refine nbC_t (fun _ => ?_) ?_) | (refine nbC_f ?_ (fun _ => ?_)))
          | refine And.intro (by first | omega | (simp only [Int.toNat_natCast] at *; omega) | (simp only [Nat.reduceAdd, Int.cast_ofNat_Int, true_and, and_true]; omega) | kernel_rfl) ?_
          | refine RegW.run ?_
          | refine ⟨_, h1, ?_⟩
          | refine ⟨_, h2, ?_⟩
          | refine ⟨_, h4, ?_⟩
          | fail
        all_goals first
          | (exfalso; rename_i h; exact h rfl)
          | exact hend _ _ hr
          | trace_state
      · rw [if_neg hL] at hr
        have hB : ¬ (wideB w = true ∧ wideL l l.length = true) → r = errR 2 := fun h => hr.trans (if_pos h)
        have hO : wideB w = true ∧ wideL l l.length = true → ordB l l.length = false → r = errR 5 := fun h3 h5 => hr.trans ((if_neg (fun h => h h3)).trans (if_pos (by rw [h5]; decide)))
        have hG : wideB w = true ∧ wideL l l.length = true → ordB l l.length = true → r = ⟨joinS (srcAll a w l) ⟨#[44, 32]⟩, 0⟩ := fun h3 h5 => hr.trans ((if_neg (fun h => h h3)).trans (if_neg (fun h => h h5)))
        clear hr
        refine Sp.body Tryd.func7 (by kernel_rfl) rfl (by kernel_rfl) (by kernel_rfl) (by kernel_rfl) ?_
        repeat' first
          | (refine facW_intro ?_; intro _)
          | refine Or.inl ?_
          | ((conv => whnf); first | (refine condW_dec ?_ ?_ <;> intro _ <;> try (exfalso; omega)) | refine condW_not ?_ | (refine condW_bool ?_ ?_ <;> intro _ <;> try (exfalso; omega)) | (refine nbC_t (fun _ => ?_) ?_) | (refine nbC_f ?_ (fun _ => ?_)))
          | refine And.intro (by first | omega | (simp only [Int.toNat_natCast] at *; omega) | (simp only [Nat.reduceAdd, Int.cast_ofNat_Int, true_and, and_true]; omega) | kernel_rfl) ?_
          | refine RegW.run ?_
          | refine ⟨_, h1, ?_⟩
          | refine ⟨_, h2, ?_⟩
          | refine ⟨_, h4, ?_⟩
          | fail
        all_goals try (exfalso; rename_i h; exact h rfl)
        refine ⟨Nat, fun k => [(33, i64 k)], fun k => [(31, .row 3 (l.length + 1) (fun i _ => i64 ((wws w l).getD i 0)))], [3], fun k => [], fun k => k ≤ l.length + 1 ∧ wideL (wws w l) k = true, fun k => l.length + 1 - k, ⟨0, ⟨by omega, rfl⟩, ⟨[], ⟨by kernel_rfl, by kernel_rfl, by kernel_rfl, by kernel_rfl, by kernel_rfl, by kernel_rfl, by kernel_rfl⟩, (by repeat' first | ((first | exact Nat.add_comm 1 l.length | (intro i j hi hj; exact rowW E w l i j hj))) | exact trivial | exact rfl | kernel_rfl | exact Dle.of_eq rfl | exact MLe.of_eq rfl | exact Dle.i (by omega) | exact Dle.i (by simp only [Int.toNat_natCast] at *; omega) | exact Dle.nil | exact Dle.rc Dle.nil | exact Option.some_ne_none _ | exact Or.inl rfl | exact Or.inr trivial | omega | (simp only [Int.toNat_natCast] at *; omega) | (intro _ _ _ _; exact Dle.of_eq rfl) | refine And.intro ?_ ?_)⟩⟩, fun k hk => ?_⟩
        obtain ⟨hk, hwl⟩ := hk
        by_cases hlt : k < l.length + 1
        · have hw3 := @wide_iff ((wws w l).getD k 0)
          by_cases hwk : wideB ((wws w l).getD k 0) = true
          · have hw4 : 1 ≤ (wws w l).getD (0 + ((k : Int)).toNat) 0 ∧ (wws w l).getD (0 + ((k : Int)).toNat) 0 ≤ 10000 := by rw [Nat.zero_add]; exact hw3.1 hwk
            repeat' first
              | (refine facW_intro ?_; intro _)
              | refine Or.inl ?_
              | ((conv => whnf); first | (refine condW_dec ?_ ?_ <;> intro _ <;> try (exfalso; omega)) | refine condW_not ?_ | (refine condW_bool ?_ ?_ <;> intro _ <;> try (exfalso; omega)) | (refine nbC_t (fun _ => ?_) ?_) | (refine nbC_f ?_ (fun _ => ?_)))
              | refine And.intro (by first | omega | (simp only [Int.toNat_natCast] at *; omega) | (simp only [Nat.reduceAdd, Int.cast_ofNat_Int, true_and, and_true]; omega) | kernel_rfl) ?_
              | refine RegW.run ?_
              | fail
            all_goals first
              | exact ⟨k + 1, ⟨by omega, allN_succ hwl hwk⟩, ⟨[], ⟨by kernel_rfl, by kernel_rfl, by kernel_rfl, by kernel_rfl, by kernel_rfl, by kernel_rfl, by kernel_rfl⟩, (by repeat' first | exact trivial | exact rfl | kernel_rfl | exact Dle.of_eq rfl | exact MLe.of_eq rfl | exact Dle.i (by omega) | exact Dle.i (by simp only [Int.toNat_natCast] at *; omega) | exact Dle.nil | exact Dle.rc Dle.nil | exact Option.some_ne_none _ | exact Or.inl rfl | exact Or.inr trivial | omega | (simp only [Int.toNat_natCast] at *; omega) | (intro _ _ _ _; exact Dle.of_eq rfl) | refine And.intro ?_ ?_)⟩, by first | omega | (dsimp only; omega)⟩
              | trace_state
          · have hr2 := hB (fun h => hwk (allN_iff.1 (wide_all.2 h) k hlt))
            have hw4 : ¬ (1 ≤ (wws w l).getD (0 + ((k : Int)).toNat) 0 ∧ (wws w l).getD (0 + ((k : Int)).toNat) 0 ≤ 10000) := by rw [Nat.zero_add]; exact fun h => hwk (hw3.2 h)
            repeat' first
              | (refine facW_intro ?_; intro _)
              | refine Or.inl ?_
              | ((conv => whnf); first | (refine condW_dec ?_ ?_ <;> intro _ <;> try (exfalso; omega)) | refine condW_not ?_ | (refine condW_bool ?_ ?_ <;> intro _ <;> try (exfalso; omega)) | (refine nbC_t (fun _ => ?_) ?_) | (refine nbC_f ?_ (fun _ => ?_)))
              | refine And.intro (by first | omega | (simp only [Int.toNat_natCast] at *; omega) | (simp only [Nat.reduceAdd, Int.cast_ofNat_Int, true_and, and_true]; omega) | kernel_rfl) ?_
              | refine RegW.run ?_
              | fail
            all_goals first
              | exact hend _ _ hr2
              | trace_state
        · obtain rfl : k = l.length + 1 := by omega
          have hww := wide_all.1 hwl
          have hO := hO hww
          have hG := hG hww
          clear hB
          repeat' first
            | (refine facW_intro ?_; intro _)
            | refine Or.inl ?_
            | ((conv => whnf); first | (refine condW_dec ?_ ?_ <;> intro _ <;> try (exfalso; omega)) | refine condW_not ?_ | (refine condW_bool ?_ ?_ <;> intro _ <;> try (exfalso; omega)) | (refine nbC_t (fun _ => ?_) ?_) | (refine nbC_f ?_ (fun _ => ?_)))
            | refine And.intro (by first | omega | (simp only [Int.toNat_natCast] at *; omega) | (simp only [Nat.reduceAdd, Int.cast_ofNat_Int, true_and, and_true]; omega) | kernel_rfl) ?_
            | refine RegW.run ?_
            | fail
          refine ⟨Nat, fun k => [(46, i64 k)], fun k => [], [3], fun k => [], fun k => k ≤ l.length ∧ ordB l k = true, fun k => l.length - k, ⟨0, ⟨by omega, rfl⟩, ⟨[], ⟨by kernel_rfl, by kernel_rfl, by kernel_rfl, by kernel_rfl, by kernel_rfl, by kernel_rfl, by kernel_rfl⟩, (by repeat' first | exact trivial | exact rfl | kernel_rfl | exact Dle.of_eq rfl | exact MLe.of_eq rfl | exact Dle.i (by omega) | exact Dle.i (by simp only [Int.toNat_natCast] at *; omega) | exact Dle.nil | exact Dle.rc Dle.nil | exact Option.some_ne_none _ | exact Or.inl rfl | exact Or.inr trivial | omega | (simp only [Int.toNat_natCast] at *; omega) | (intro _ _ _ _; exact Dle.of_eq rfl) | refine And.intro ?_ ?_)⟩⟩, fun k hk => ?_⟩
          obtain ⟨hk, hord⟩ := hk
          by_cases hlt : k < l.length
          · have ek : ((k : Int) - 1).toNat = k - 1 := by omega
            by_cases hok : k = 0 ∨ l.getD (k - 1) 0 < l.getD k 0
            · have hord2 : ordB l (k + 1) = true := allN_succ hord (by simpa using hok)
              have hok2 : k = 0 ∨ l.getD ((k : Int) - 1).toNat 0 < l.getD ((k : Int)).toNat 0 := by rw [ek]; exact hok
              repeat' first
                | (refine facW_intro ?_; intro _)
                | refine Or.inl ?_
                | ((conv => whnf); first | (refine condW_dec ?_ ?_ <;> intro _ <;> try (exfalso; omega)) | refine condW_not ?_ | (refine condW_bool ?_ ?_ <;> intro _ <;> try (exfalso; omega)) | (refine nbC_t (fun _ => ?_) ?_) | (refine nbC_f ?_ (fun _ => ?_)))
                | refine And.intro (by first | omega | (simp only [Int.toNat_natCast] at *; omega) | (simp only [Nat.reduceAdd, Int.cast_ofNat_Int, true_and, and_true]; omega) | kernel_rfl) ?_
                | refine RegW.run ?_
                | fail
              all_goals first
                | exact ⟨k + 1, ⟨by omega, hord2⟩, ⟨[], ⟨by kernel_rfl, by kernel_rfl, by kernel_rfl, by kernel_rfl, by kernel_rfl, by kernel_rfl, by kernel_rfl⟩, (by repeat' first | exact trivial | exact rfl | kernel_rfl | exact Dle.of_eq rfl | exact MLe.of_eq rfl | exact Dle.i (by omega) | exact Dle.i (by simp only [Int.toNat_natCast] at *; omega) | exact Dle.nil | exact Dle.rc Dle.nil | exact Option.some_ne_none _ | exact Or.inl rfl | exact Or.inr trivial | omega | (simp only [Int.toNat_natCast] at *; omega) | (intro _ _ _ _; exact Dle.of_eq rfl) | refine And.intro ?_ ?_)⟩, by first | omega | (dsimp only; omega)⟩
                | trace_state
            · have hr2 := hO (ordB_long hlt (by omega) (by omega))
              have hok2 : ¬ (k = 0 ∨ l.getD ((k : Int) - 1).toNat 0 < l.getD ((k : Int)).toNat 0) := by rw [ek]; exact hok
              repeat' first
                | (refine facW_intro ?_; intro _)
                | refine Or.inl ?_
                | ((conv => whnf); first | (refine condW_dec ?_ ?_ <;> intro _ <;> try (exfalso; omega)) | refine condW_not ?_ | (refine condW_bool ?_ ?_ <;> intro _ <;> try (exfalso; omega)) | (refine nbC_t (fun _ => ?_) ?_) | (refine nbC_f ?_ (fun _ => ?_)))
                | refine And.intro (by first | omega | (simp only [Int.toNat_natCast] at *; omega) | (simp only [Nat.reduceAdd, Int.cast_ofNat_Int, true_and, and_true]; omega) | kernel_rfl) ?_
                | refine RegW.run ?_
                | fail
              all_goals first
                | exact hend _ _ hr2
                | trace_state
          · obtain rfl : k = l.length := by omega
            have hr2 := hG hord
            clear hO hG
            have hz : (srcs a w l 0).length = 0 := rfl
            have hsz := srcAll_size (l := l) ha (by omega) hww.1 hww.2
            repeat' first
              | (refine facW_intro ?_; intro _)
              | refine Or.inl ?_
              | ((conv => whnf); first | (refine condW_dec ?_ ?_ <;> intro _ <;> try (exfalso; omega)) | refine condW_not ?_ | (refine condW_bool ?_ ?_ <;> intro _ <;> try (exfalso; omega)) | (refine nbC_t (fun _ => ?_) ?_) | (refine nbC_f ?_ (fun _ => ?_)))
              | refine And.intro (by first | omega | (simp only [Int.toNat_natCast] at *; omega) | (simp only [Nat.reduceAdd, Int.cast_ofNat_Int, true_and, and_true]; omega) | kernel_rfl) ?_
              | refine RegW.run ?_
              | fail
            refine ⟨Nat, fun k => [(66, i64 k)], fun k => [(12, .cells [.own 66 1 0 (srcs a w l k).length])], [3], fun k => [(66, 9, (srcs a w l k).length, rowS (srcs a w l k))], fun k => k ≤ l.length, fun k => l.length - k, ⟨0, by omega, ⟨[(66, none)], ⟨by kernel_rfl, by kernel_rfl, by kernel_rfl, by kernel_rfl, by kernel_rfl, by kernel_rfl, by kernel_rfl⟩, (by repeat' first | exact trivial | exact rfl | kernel_rfl | exact Dle.of_eq rfl | exact MLe.of_eq rfl | exact Dle.i (by omega) | exact Dle.i (by simp only [Int.toNat_natCast] at *; omega) | exact Dle.nil | exact Dle.rc Dle.nil | exact Option.some_ne_none _ | exact Or.inl rfl | exact Or.inr trivial | omega | (simp only [Int.toNat_natCast] at *; omega) | (intro _ _ _ _; exact Dle.of_eq rfl) | refine And.intro ?_ ?_)⟩⟩, fun k hk => ?_⟩
            have hk : k ≤ l.length := hk
            have hsl := srcs_len a w l k
            by_cases hlt : k < l.length
            · have hwk : wideB (l.getD k 0) = true := allN_iff.1 hww.2 k hlt
              by_cases hle : l.getD k 0 ≤ w
              · have e1 := srcs_yes (a := a) hlt hle
                have hle2 : l.getD ((k : Int)).toNat 0 ≤ w := hle
                have h5 : SpH (cx Tryd.prog mixed tyT_ok E) _ [i64 (l.getD ((k : Int)).toNat 0), _, _] _ _ _ := add_75 E hP a (l.getD k 0) (srcs a w l k) ha hwk (by omega)
                have e3 := (congrArg List.length e1).symm
                repeat' first
                  | refine Or.inr ⟨_, _, _, h5, by kernel_rfl, (by repeat' first | exact trivial | exact rfl | kernel_rfl | exact Dle.of_eq rfl | exact MLe.of_eq rfl | exact Dle.i (by omega) | exact Dle.i (by simp only [Int.toNat_natCast] at *; omega) | exact Dle.nil | exact Dle.rc Dle.nil | exact Option.some_ne_none _ | exact Or.inl rfl | exact Or.inr trivial | omega | (simp only [Int.toNat_natCast] at *; omega) | (intro _ _ _ _; exact Dle.of_eq rfl) | refine And.intro ?_ ?_), ?_⟩
                  | (refine facW_intro ?_; intro _)
                  | refine Or.inl ?_
                  | ((conv => whnf); first | (refine condW_dec ?_ ?_ <;> intro _ <;> try (exfalso; omega)) | refine condW_not ?_ | (refine condW_bool ?_ ?_ <;> intro _ <;> try (exfalso; omega)) | (refine nbC_t (fun _ => ?_) ?_) | (refine nbC_f ?_ (fun _ => ?_)))
                  | refine And.intro (by first | omega | (simp only [Int.toNat_natCast] at *; omega) | (simp only [Nat.reduceAdd, Int.cast_ofNat_Int, true_and, and_true]; omega) | kernel_rfl) ?_
                  | refine RegW.run ?_
                  | fail
                all_goals first
                  | exact ⟨k + 1, by omega, ⟨[(66, some 75)], ⟨by kernel_rfl, by kernel_rfl, by kernel_rfl, by kernel_rfl, by kernel_rfl, by kernel_rfl, by kernel_rfl⟩, (by repeat' first | (exact e3) | exact trivial | exact rfl | kernel_rfl | exact Dle.of_eq rfl | exact MLe.of_eq rfl | exact Dle.i (by omega) | exact Dle.i (by simp only [Int.toNat_natCast] at *; omega) | exact Dle.nil | exact Dle.rc Dle.nil | exact Option.some_ne_none _ | exact Or.inl rfl | exact Or.inr trivial | omega | (simp only [Int.toNat_natCast] at *; omega) | (intro _ _ _ _; exact Dle.of_eq rfl) | (intro i j hi hj; (rw [e1]; exact Dle.refl _ _)) | refine And.intro ?_ ?_)⟩, by first | omega | (dsimp only; omega)⟩
                  | trace_state
              · have e1 := srcs_no (a := a) hlt hle
                have hle2 : ¬ l.getD ((k : Int)).toNat 0 ≤ w := hle
                have e3 := (congrArg List.length e1).symm
                repeat' first
                  | (refine facW_intro ?_; intro _)
                  | refine Or.inl ?_
                  | ((conv => whnf); first | (refine condW_dec ?_ ?_ <;> intro _ <;> try (exfalso; omega)) | refine condW_not ?_ | (refine condW_bool ?_ ?_ <;> intro _ <;> try (exfalso; omega)) | (refine nbC_t (fun _ => ?_) ?_) | (refine nbC_f ?_ (fun _ => ?_)))
                  | refine And.intro (by first | omega | (simp only [Int.toNat_natCast] at *; omega) | (simp only [Nat.reduceAdd, Int.cast_ofNat_Int, true_and, and_true]; omega) | kernel_rfl) ?_
                  | refine RegW.run ?_
                  | fail
                all_goals first
                  | exact ⟨k + 1, by omega, ⟨[(66, some 66)], ⟨by kernel_rfl, by kernel_rfl, by kernel_rfl, by kernel_rfl, by kernel_rfl, by kernel_rfl, by kernel_rfl⟩, (by repeat' first | (exact e3) | exact trivial | exact rfl | kernel_rfl | exact Dle.of_eq rfl | exact MLe.of_eq rfl | exact Dle.i (by omega) | exact Dle.i (by simp only [Int.toNat_natCast] at *; omega) | exact Dle.nil | exact Dle.rc Dle.nil | exact Option.some_ne_none _ | exact Or.inl rfl | exact Or.inr trivial | omega | (simp only [Int.toNat_natCast] at *; omega) | (intro _ _ _ _; exact Dle.of_eq rfl) | (intro i j hi hj; (rw [e1]; exact Dle.refl _ _)) | refine And.intro ?_ ?_)⟩, by first | omega | (dsimp only; omega)⟩
                  | trace_state
            · obtain rfl : k = l.length := by omega
              have h5 := add_83 E hP a w (srcs a w l l.length) ha hww.1 (by omega)
              have hj := join_sp E (srcAll a w l) ⟨#[44, 32]⟩ (by omega) (by omega)
              by_cases hm : w ∈ l
              · have e : srcAll a w l = srcs a w l l.length := by unfold srcAll; rw [if_pos hm]
                rw [decide_eq_true hm] at h3
                rw [e] at hj hr2
                subst hr2
                repeat' first
                  | (refine facW_intro ?_; intro _)
                  | refine Or.inl ?_
                  | ((conv => whnf); first | (refine condW_dec ?_ ?_ <;> intro _ <;> try (exfalso; omega)) | refine condW_not ?_ | (refine condW_bool ?_ ?_ <;> intro _ <;> try (exfalso; omega)) | (refine nbC_t (fun _ => ?_) ?_) | (refine nbC_f ?_ (fun _ => ?_)))
                  | refine And.intro (by first | omega | (simp only [Int.toNat_natCast] at *; omega) | (simp only [Nat.reduceAdd, Int.cast_ofNat_Int, true_and, and_true]; omega) | kernel_rfl) ?_
                  | refine RegW.run ?_
                  | refine ⟨_, h3, ?_⟩
                  | refine ⟨_, hj, ?_⟩
                  | fail
                all_goals first
                  | exact Dle.refl _ _
                  | (exfalso; rename_i h; exact h rfl)
                  | trace_state
              · have e : srcAll a w l = srcs a w l l.length ++ [srcT a w] := by unfold srcAll; rw [if_neg hm]
                rw [decide_eq_false hm] at h3
                rw [e] at hj hr2
                subst hr2
                repeat' first
                  | refine Or.inr ⟨_, _, _, h5, by kernel_rfl, (by repeat' first | exact trivial | exact rfl | kernel_rfl | exact Dle.of_eq rfl | exact MLe.of_eq rfl | exact Dle.i (by omega) | exact Dle.i (by simp only [Int.toNat_natCast] at *; omega) | exact Dle.nil | exact Dle.rc Dle.nil | exact Option.some_ne_none _ | exact Or.inl rfl | exact Or.inr trivial | omega | (simp only [Int.toNat_natCast] at *; omega) | (intro _ _ _ _; exact Dle.of_eq rfl) | refine And.intro ?_ ?_), ?_⟩
                  | (refine facW_intro ?_; intro _)
                  | refine Or.inl ?_
                  | ((conv => whnf); first | (refine condW_dec ?_ ?_ <;> intro _ <;> try (exfalso; omega)) | refine condW_not ?_ | (refine condW_bool ?_ ?_ <;> intro _ <;> try (exfalso; omega)) | (refine nbC_t (fun _ => ?_) ?_) | (refine nbC_f ?_ (fun _ => ?_)))
                  | refine And.intro (by first | omega | (simp only [Int.toNat_natCast] at *; omega) | (simp only [Nat.reduceAdd, Int.cast_ofNat_Int, true_and, and_true]; omega) | kernel_rfl) ?_
                  | refine RegW.run ?_
                  | refine ⟨_, h3, ?_⟩
                  | refine ⟨_, hj, ?_⟩
                  | fail
                all_goals first
                  | exact Dle.refl _ _
                  | (exfalso; rename_i h; exact h rfl)
                  | trace_state
    · rw [if_pos (fun h => hq h.2)] at hr
      have hq : pathB (a.extract 1 a.size) = false := by simpa using hq
      rw [hq] at h2
      refine Sp.body Tryd.func7 (by kernel_rfl) rfl (by kernel_rfl) (by kernel_rfl) (by kernel_rfl) ?_
      repeat' first
        | (refine facW_intro ?_; intro _)
        | refine Or.inl ?_
        | ((conv => whnf); first | (refine condW_dec ?_ ?_ <;> intro _ <;> try (exfalso; omega)) | refine condW_not ?_ | (refine condW_bool ?_ ?_ <;> intro _ <;> try (exfalso; omega)) | (refine nbC_t (fun _ => ?_) ?_) | (refine nbC_f ?_ (fun _ => ?_)))
        | refine And.intro (by first | omega | (simp only [Int.toNat_natCast] at *; omega) | (simp only [Nat.reduceAdd, Int.cast_ofNat_Int, true_and, and_true]; omega) | kernel_rfl) ?_
        | refine RegW.run ?_
        | refine ⟨_, h1, ?_⟩
        | refine ⟨_, h2, ?_⟩
        | refine ⟨_, h4, ?_⟩
        | fail
      all_goals first
        | (exfalso; rename_i h; exact h rfl)
        | exact hend _ _ hr
        | trace_state
  · rw [if_pos (fun h => hp h.1)] at hr
    have hp : preS a ⟨#[47]⟩ = false := by simpa using hp
    rw [hp] at h1
    refine Sp.body Tryd.func7 (by kernel_rfl) rfl (by kernel_rfl) (by kernel_rfl) (by kernel_rfl) ?_
    repeat' first
      | (refine facW_intro ?_; intro _)
      | refine Or.inl ?_
      | ((conv => whnf); first | (refine condW_dec ?_ ?_ <;> intro _ <;> try (exfalso; omega)) | refine condW_not ?_ | (refine condW_bool ?_ ?_ <;> intro _ <;> try (exfalso; omega)) | (refine nbC_t (fun _ => ?_) ?_) | (refine nbC_f ?_ (fun _ => ?_)))
      | refine And.intro (by first | omega | (simp only [Int.toNat_natCast] at *; omega) | (simp only [Nat.reduceAdd, Int.cast_ofNat_Int, true_and, and_true]; omega) | kernel_rfl) ?_
      | refine RegW.run ?_
      | refine ⟨_, h1, ?_⟩
      | fail
    all_goals first
      | (exfalso; rename_i h; exact h rfl)
      | exact hend _ _ hr
      | trace_state
theorem imageSources_sp (hP : ∀ w, E.G w → P10 w) (hML : ∀ w, E.G w → ML w) (a : ByteArray) (w : Int) (l : List Int) (hll : l.length ≤ 100000000000000) : Sp (cx Tryd.prog mixed tyT_ok E) 3 [dS a, i64 w, .sl 1 8 l.length (fun i _ => i64 (l.getD i 0))] (dB true) := by
  have h1 := sourceSet_sp E hP hML a w l hll
  have h2 := sourceSetOf_sp E hP hML a w l hll
  generalize srcR a w l = q at h1 h2
  refine Sp.body Tryd.func3 (by kernel_rfl) rfl (by kernel_rfl) (by kernel_rfl) (by kernel_rfl) ?_
  repeat' first
    | (refine facW_intro ?_; intro _)
    | refine Or.inl ?_
    | ((conv => whnf); first | (refine condW_dec ?_ ?_ <;> intro _ <;> try (exfalso; omega)) | refine condW_not ?_ | (refine condW_bool ?_ ?_ <;> intro _ <;> try (exfalso; omega)) | (refine nbC_t (fun _ => ?_) ?_) | (refine nbC_f ?_ (fun _ => ?_)))
    | refine And.intro (by first | omega | (simp only [Int.toNat_natCast] at *; omega) | (simp only [Nat.reduceAdd, Int.cast_ofNat_Int, true_and, and_true]; omega) | kernel_rfl) ?_
    | refine RegW.run ?_
    | refine ⟨_, h1, ?_⟩
    | refine ⟨_, h2, ?_⟩
    | fail
  all_goals first
    | exact Dle.bo (by simp)
    | (exfalso; rename_i h; exact h rfl)
    | trace_state
end
end srcset
end Go.Proofs.YtagggnjcpjodjaaDoor
