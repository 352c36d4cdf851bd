/-
  conf.Routes, the reference's RoutesOf, Alike over rows of strings, the law.
-/
import Derived.Test.YtphmfejengmggaaGreatDoorM1
import Derived.Test.YtphmfejengmggaaGreatDoorN19
namespace Go.Proofs.YtphmfejengmggaaGreatDoor
open Go.RowKit
set_option linter.unusedVariables false
set_option linter.unusedSimpArgs false
def routesE (v : Vu) : List ByteArray × Int := if checkE v ≠ 0 then ([], checkE v) else (rts v ⟨#[]⟩, 0)
section
variable (E : Env)
set_option maxRecDepth 100000
theorem row_encStrs (a b : List ByteArray) (i j : Nat) : Dle (cx Tryz.prog mixed tyT_ok E) (if i < a.length then rowS a i j else (fun i _ => (.v (.string (b.getD i ⟨#[]⟩)) : DD)) (i - a.length) j) (rowS (a ++ b) i j) := Dle.of_eq (rowS_app a b i j)
theorem one_enc (r : ByteArray) : Dle (cx Tryz.prog mixed tyT_ok E) (.sl 1 16 1 (fun i j => ([dS r] : List DD).getD ((i + 0) * 1 + j) .opq)) (encStrs [r]) := by
  refine Dle.sl (X := (cx Tryz.prog mixed tyT_ok E)) rfl (fun i j hi hj => ?_)
  obtain rfl : i = 0 := by omega
  obtain rfl : j = 0 := by omega
  exact Dle.refl _ _
theorem cRoutes_sp (hP : ∀ w, E.G w → P10 w) (v : Vu) (hw : v.wt ≤ 100000000) : Sp (cx Tryz.prog mixed tyT_ok E) 12 [encV v] (.tup [encStrs (routesE v).1, i64 (routesE v).2]) := by
  have hcw := cnt_le_wt v
  have h1 := check_sp E v (by omega)
  obtain ⟨q, hq⟩ : ∃ q, q = routesE v := ⟨_, rfl⟩
  rw [← hq]
  unfold routesE at hq
  by_cases h0 : checkE v = 0
  · rw [if_neg (by rw [h0]; decide)] at hq
    rw [h0] at h1
    have hc : cnt v ≤ 1000 := by unfold checkE at h0; grind
    have hl := len_le_cntL v.items
    have he := cnt_eq v
    have h2 := routes_any E hP _ v ⟨#[]⟩ [] 1000000 11 (by decide) (Nat.lt_succ_self _) (check_ok h0) (by omega) (by omega) (by show 0 + _ ≤ _; omega) (by simp; omega)
    have h3 := SpH.ofNil (X := (cx Tryz.prog mixed tyT_ok E)) (ds := [encV v, dS ⟨#[]⟩]) (g := rowS []) (e := 9) (A := 1000000) (s := 1) rfl (by kernel_rfl) h2
    rw [List.nil_append] at h3
    subst hq
    generalize rts v ⟨#[]⟩ = a at h3
    refine Sp.body Tryz.func12 (by kernel_rfl) rfl (by kernel_rfl) (by kernel_rfl) (by kernel_rfl) ?_
    repeat' first
      | refine Or.inr ⟨_, _, _, h3, by kernel_rfl, (by repeat' first | exact trivial | exact rfl | kernel_rfl | exact Dle.of_eq rfl | exact MLe.of_eq rfl | exact Dle.i (by omega) | exact Dle.i (by simp only [Int.toNat_natCast] at *; omega) | exact Dle.nil | exact Dle.rc Dle.nil | exact Option.some_ne_none _ | exact Or.inl rfl | exact Or.inr trivial | omega | (simp only [Int.toNat_natCast] at *; omega) | (intro _ _ _ _; exact Dle.of_eq rfl) | refine And.intro ?_ ?_), ?_⟩
      | (refine facW_intro ?_; intro _)
      | refine Or.inl ?_
      | ((conv => whnf); first | (refine condW_dec ?_ ?_ <;> intro _ <;> try (exfalso; omega)) | refine condW_not ?_ | (refine condW_bool ?_ ?_ <;> intro _ <;> try (exfalso; omega)) | (refine nbC_t (fun _ => ?_) ?_) | (refine nbC_f ?_ (fun _ => ?_)))
      | refine And.intro (by first | omega | (simp only [Int.toNat_natCast] at *; omega) | (simp only [Nat.reduceAdd, Int.cast_ofNat_Int, true_and, and_true]; omega) | kernel_rfl) ?_
      | refine RegW.run ?_
      | refine ⟨_, h1, ?_⟩
      | fail
    all_goals first
      | (exfalso; rename_i h; exact h rfl)
      | exact Dle.tup (X := (cx Tryz.prog mixed tyT_ok E)) ⟨Dle.sl (X := (cx Tryz.prog mixed tyT_ok E)) rfl (fun i j hi hj => Dle.refl _ _), Dle.refl _ _, trivial⟩
      | trace_state
  · rw [if_pos h0] at hq
    subst hq
    generalize checkE v = c at h1 h0
    refine Sp.body Tryz.func12 (by kernel_rfl) rfl (by kernel_rfl) (by kernel_rfl) (by kernel_rfl) ?_
    repeat' first
      | (refine facW_intro ?_; intro _)
      | refine Or.inl ?_
      | ((conv => whnf); first | (refine condW_dec ?_ ?_ <;> intro _ <;> try (exfalso; omega)) | refine condW_not ?_ | (refine condW_bool ?_ ?_ <;> intro _ <;> try (exfalso; omega)) | (refine nbC_t (fun _ => ?_) ?_) | (refine nbC_f ?_ (fun _ => ?_)))
      | refine And.intro (by first | omega | (simp only [Int.toNat_natCast] at *; omega) | (simp only [Nat.reduceAdd, Int.cast_ofNat_Int, true_and, and_true]; omega) | kernel_rfl) ?_
      | refine RegW.run ?_
      | refine ⟨_, h1, ?_⟩
      | fail
    all_goals first
      | exact Dle.tup (X := (cx Tryz.prog mixed tyT_ok E)) ⟨Dle.nil (X := (cx Tryz.prog mixed tyT_ok E)), Dle.refl _ _, trivial⟩
      | trace_state
theorem route_sp (r p : ByteArray) (h : r.size + p.size ≤ 1000000000000000) : Sp (cx Tryz.prog mixed tyT_ok E) 141 [dS r, dS p] (dS (joinR r p)) := by
  have h1 : (r ++ ⟨#[46]⟩).size = r.size + 1 := by rw [ByteArray.size_append]; rfl
  have h2 : (⟨#[46]⟩ : ByteArray).size = 1 := rfl
  refine Sp.body Tryz.func141 (by kernel_rfl) rfl (by kernel_rfl) (by kernel_rfl) (by kernel_rfl) ?_
  repeat' first
    | (refine facW_intro ?_; intro _)
    | refine Or.inl ?_
    | ((conv => whnf); first | (refine condW_dec ?_ ?_ <;> intro _ <;> try (exfalso; omega)) | refine condW_not ?_ | (refine condW_bool ?_ ?_ <;> intro _ <;> try (exfalso; omega)) | (refine nbC_t (fun _ => ?_) ?_) | (refine nbC_f ?_ (fun _ => ?_)))
    | refine And.intro (by first | omega | (simp only [Int.toNat_natCast] at *; omega) | (simp only [Nat.reduceAdd, Int.cast_ofNat_Int, true_and, and_true]; omega) | kernel_rfl) ?_
    | refine RegW.run ?_
    | fail
  all_goals first
    | exact Dle.s (by unfold joinR; rw [if_pos (by assumption)])
    | exact Dle.s (by unfold joinR; rw [if_neg (by assumption)])
    | trace_state
theorem partOf_sp (hP : ∀ w, E.G w → P10 w) (v : Vu) (i : Nat) (hi : i < v.items.length) (hk : v.kind = 6 → v.keys.length = v.items.length) (hb : i ≤ 1000000) : Sp (cx Tryz.prog mixed tyT_ok E) 142 [encV v, i64 i] (dS (partK v.kind v.keys i)) := by
  have h1 := itoaN_sp E hP i hb
  refine Sp.body Tryz.func142 (by kernel_rfl) rfl (by kernel_rfl) (by kernel_rfl) (by kernel_rfl) ?_
  repeat' first
    | (refine facW_intro ?_; intro _)
    | refine Or.inl ?_
    | ((conv => whnf); first | (refine condW_dec ?_ ?_ <;> intro _ <;> try (exfalso; omega)) | refine condW_not ?_ | (refine condW_bool ?_ ?_ <;> intro _ <;> try (exfalso; omega)) | (refine nbC_t (fun _ => ?_) ?_) | (refine nbC_f ?_ (fun _ => ?_)))
    | refine And.intro (by first | omega | (simp only [Int.toNat_natCast] at *; omega) | (simp only [Nat.reduceAdd, Int.cast_ofNat_Int, true_and, and_true]; omega) | kernel_rfl) ?_
    | refine RegW.run ?_
    | refine ⟨_, h1, ?_⟩
    | fail
  all_goals first
    | exact Dle.s (by unfold partK; rw [if_pos (by assumption)]; rfl)
    | exact Dle.s (by unfold partK; rw [if_neg (by assumption)])
    | trace_state
set_option maxHeartbeats 4000000 in
theorem refRoutes_sp (hP : ∀ w, E.G w → P10 w) : ∀ (N : Nat) (v : Vu) (r : ByteArray), SizeOf.sizeOf v < N → faultE v = 0 → v.items.length ≤ 1000000 → cnt v ≤ 1000000 → r.size + 100 * v.wt ≤ 100000000000 →
    Sp (cx Tryz.prog mixed tyT_ok E) 43 [encV v, dS r] (encStrs (rts v r))
  | 0, v, r, h, _, _, _, _ => by omega
  | N + 1, v, r, h, hf, hil, hc, hw => by
    have ih := fun x (hx : x ∈ v.items) r' hx2 => refRoutes_sp hP N x r' (by have := items_lt v x hx; omega) hx2
    have hkl := (fault_keys hf).2
    by_cases h0 : v.items.length = 0
    · have e : rts v r = [r] := by rw [rts_eq, if_pos h0]
      rw [e]
      refine Sp.body Tryz.func43 (by kernel_rfl) rfl (by kernel_rfl) (by kernel_rfl) (by kernel_rfl) ?_
      repeat' first
        | (refine facW_intro ?_; intro _)
        | refine Or.inl ?_
        | ((conv => whnf); first | (refine condW_dec ?_ ?_ <;> intro _ <;> try (exfalso; omega)) | refine condW_not ?_ | (refine condW_bool ?_ ?_ <;> intro _ <;> try (exfalso; omega)) | (refine nbC_t (fun _ => ?_) ?_) | (refine nbC_f ?_ (fun _ => ?_)))
        | refine And.intro (by first | omega | (simp only [Int.toNat_natCast] at *; omega) | (simp only [Nat.reduceAdd, Int.cast_ofNat_Int, true_and, and_true]; omega) | kernel_rfl) ?_
        | refine RegW.run ?_
        | fail
      all_goals first
        | exact one_enc E r
        | trace_state
    · refine Sp.body Tryz.func43 (by kernel_rfl) rfl (by kernel_rfl) (by kernel_rfl) (by kernel_rfl) ?_
      repeat' first
        | (refine facW_intro ?_; intro _)
        | refine Or.inl ?_
        | ((conv => whnf); first | (refine condW_dec ?_ ?_ <;> intro _ <;> try (exfalso; omega)) | refine condW_not ?_ | (refine condW_bool ?_ ?_ <;> intro _ <;> try (exfalso; omega)) | (refine nbC_t (fun _ => ?_) ?_) | (refine nbC_f ?_ (fun _ => ?_)))
        | refine And.intro (by first | omega | (simp only [Int.toNat_natCast] at *; omega) | (simp only [Nat.reduceAdd, Int.cast_ofNat_Int, true_and, and_true]; omega) | kernel_rfl) ?_
        | refine RegW.run ?_
        | fail
      refine ⟨Nat, fun k => [(17, i64 k), (5, .own 17 1 0 (rtsP v r k).length)], fun k => [], [2], fun k => [(17, 9, (rtsP v r k).length, rowS (rtsP v r k))], fun k => k ≤ v.items.length, fun k => v.items.length - k, ⟨0, by omega, ⟨[(17, none)], ⟨by kernel_rfl, by kernel_rfl, by kernel_rfl, by kernel_rfl, by kernel_rfl, by kernel_rfl, by kernel_rfl⟩, (by repeat' first | exact trivial | exact rfl | kernel_rfl | exact Dle.of_eq rfl | exact MLe.of_eq rfl | exact Dle.i (by omega) | exact Dle.i (by simp only [Int.toNat_natCast] at *; omega) | exact Dle.nil | exact Dle.rc Dle.nil | exact Option.some_ne_none _ | exact Or.inl rfl | exact Or.inr trivial | omega | (simp only [Int.toNat_natCast] at *; omega) | (intro _ _ _ _; exact Dle.of_eq rfl) | refine And.intro ?_ ?_)⟩⟩, fun k hk => ?_⟩
      have hk : k ≤ v.items.length := hk
      by_cases hlt : k < v.items.length
      · have hm := getD_mem v.items .zero k hlt
        have g1 := wt_child hm
        have g2 := cnt_mem v.items _ hm
        have g3 := len_le_cntL (v.items.getD k .zero).items
        have g4 := cnt_eq (v.items.getD k .zero)
        have g5 := cnt_eq v
        have g6 := part_wt (v := v) (i := k) (by omega)
        have g7 := joinR_size r (partK v.kind v.keys k)
        have g8 := rtsP_len v r k hk
        have g9 := cntL_take v.items (k + 1)
        rw [take_snoc v.items .zero k hlt, cntL_app] at g9
        have gA := rts_len (v.items.getD k .zero) (joinR r (partK v.kind v.keys k))
        have h1 := partOf_sp E hP v k hlt hkl (by omega)
        have h2 := route_sp E r (partK v.kind v.keys k) (by omega)
        have h3 := ih _ hm (joinR r (partK v.kind v.keys k)) (fault_mem hf hlt) (by omega) (by omega) (by omega)
        have e2 : rtsP v r (k + 1) = rtsP v r k ++ rts (v.items.getD k .zero) (joinR r (partK v.kind v.keys k)) := rfl
        have e3 : (rtsP v r k).length + (rts (v.items.getD k .zero) (joinR r (partK v.kind v.keys k))).length = (rtsP v r (k + 1)).length := by rw [e2, List.length_append]
        repeat' first
          | (refine facW_intro ?_; intro _)
          | refine Or.inl ?_
          | ((conv => whnf); first | (refine condW_dec ?_ ?_ <;> intro _ <;> try (exfalso; omega)) | refine condW_not ?_ | (refine condW_bool ?_ ?_ <;> intro _ <;> try (exfalso; omega)) | (refine nbC_t (fun _ => ?_) ?_) | (refine nbC_f ?_ (fun _ => ?_)))
          | refine And.intro (by first | omega | (simp only [Int.toNat_natCast] at *; omega) | (simp only [Nat.reduceAdd, Int.cast_ofNat_Int, true_and, and_true]; omega) | kernel_rfl) ?_
          | refine RegW.run ?_
          | refine ⟨_, h1, ?_⟩
          | refine ⟨_, h2, ?_⟩
          | refine ⟨_, h3, ?_⟩
          | fail
        all_goals first
          | exact ⟨k + 1, by omega, ⟨[(17, some 30)], ⟨by kernel_rfl, by kernel_rfl, by kernel_rfl, by kernel_rfl, by kernel_rfl, by kernel_rfl, by kernel_rfl⟩, (by repeat' first | (exact e3) | exact trivial | exact rfl | kernel_rfl | exact Dle.of_eq rfl | exact MLe.of_eq rfl | exact Dle.i (by omega) | exact Dle.i (by simp only [Int.toNat_natCast] at *; omega) | exact Dle.nil | exact Dle.rc Dle.nil | exact Option.some_ne_none _ | exact Or.inl rfl | exact Or.inr trivial | omega | (simp only [Int.toNat_natCast] at *; omega) | (intro _ _ _ _; exact Dle.of_eq rfl) | (intro i j hi hj; (rw [e2]; exact row_encStrs E _ _ i j)) | refine And.intro ?_ ?_)⟩, by first | omega | (dsimp only; omega)⟩
          | trace_state
      · have e : k = v.items.length := by omega
        subst e
        have e4 := rtsP_all v r h0
        repeat' first
          | (refine facW_intro ?_; intro _)
          | refine Or.inl ?_
          | ((conv => whnf); first | (refine condW_dec ?_ ?_ <;> intro _ <;> try (exfalso; omega)) | refine condW_not ?_ | (refine condW_bool ?_ ?_ <;> intro _ <;> try (exfalso; omega)) | (refine nbC_t (fun _ => ?_) ?_) | (refine nbC_f ?_ (fun _ => ?_)))
          | refine And.intro (by first | omega | (simp only [Int.toNat_natCast] at *; omega) | (simp only [Nat.reduceAdd, Int.cast_ofNat_Int, true_and, and_true]; omega) | kernel_rfl) ?_
          | refine RegW.run ?_
          | fail
        all_goals first
          | (rw [← e4]; exact Dle.sl (X := (cx Tryz.prog mixed tyT_ok E)) rfl (fun i j hi hj => Dle.refl _ _))
          | trace_state
theorem routesOf_sp (hP : ∀ w, E.G w → P10 w) (v : Vu) (hw : v.wt ≤ 100000000) : Sp (cx Tryz.prog mixed tyT_ok E) 13 [encV v] (.tup [encStrs (routesE v).1, i64 (routesE v).2]) := by
  have hcw := cnt_le_wt v
  have h1 := confCheck_sp E v (by omega)
  obtain ⟨q, hq⟩ : ∃ q, q = routesE v := ⟨_, rfl⟩
  rw [← hq]
  unfold routesE at hq
  by_cases h0 : checkE v = 0
  · rw [if_neg (by rw [h0]; decide)] at hq
    rw [h0] at h1
    have hc : cnt v ≤ 1000 := by unfold checkE at h0; grind
    have hl := len_le_cntL v.items
    have he := cnt_eq v
    have h2 := refRoutes_sp E hP _ v ⟨#[]⟩ (Nat.lt_succ_self _) (check_ok h0) (by omega) (by omega) (by show 0 + _ ≤ _; omega)
    subst hq
    generalize rts v ⟨#[]⟩ = a at h2
    refine Sp.body Tryz.func13 (by kernel_rfl) rfl (by kernel_rfl) (by kernel_rfl) (by kernel_rfl) ?_
    repeat' first
      | (refine facW_intro ?_; intro _)
      | refine Or.inl ?_
      | ((conv => whnf); first | (refine condW_dec ?_ ?_ <;> intro _ <;> try (exfalso; omega)) | refine condW_not ?_ | (refine condW_bool ?_ ?_ <;> intro _ <;> try (exfalso; omega)) | (refine nbC_t (fun _ => ?_) ?_) | (refine nbC_f ?_ (fun _ => ?_)))
      | refine And.intro (by first | omega | (simp only [Int.toNat_natCast] at *; omega) | (simp only [Nat.reduceAdd, Int.cast_ofNat_Int, true_and, and_true]; omega) | kernel_rfl) ?_
      | refine RegW.run ?_
      | refine ⟨_, h2, ?_⟩
      | refine ⟨_, h1, ?_⟩
      | fail
    all_goals first
      | (exfalso; rename_i h; exact h rfl)
      | exact Dle.refl _ _
      | trace_state
  · rw [if_pos h0] at hq
    subst hq
    generalize checkE v = c at h1 h0
    refine Sp.body Tryz.func13 (by kernel_rfl) rfl (by kernel_rfl) (by kernel_rfl) (by kernel_rfl) ?_
    repeat' first
      | (refine facW_intro ?_; intro _)
      | refine Or.inl ?_
      | ((conv => whnf); first | (refine condW_dec ?_ ?_ <;> intro _ <;> try (exfalso; omega)) | refine condW_not ?_ | (refine condW_bool ?_ ?_ <;> intro _ <;> try (exfalso; omega)) | (refine nbC_t (fun _ => ?_) ?_) | (refine nbC_f ?_ (fun _ => ?_)))
      | refine And.intro (by first | omega | (simp only [Int.toNat_natCast] at *; omega) | (simp only [Nat.reduceAdd, Int.cast_ofNat_Int, true_and, and_true]; omega) | kernel_rfl) ?_
      | refine RegW.run ?_
      | refine ⟨_, h1, ?_⟩
      | fail
    all_goals first
      | exact Dle.tup (X := (cx Tryz.prog mixed tyT_ok E)) ⟨Dle.nil (X := (cx Tryz.prog mixed tyT_ok E)), Dle.refl _ _, trivial⟩
      | trace_state
theorem eqStrs_sp (l : List ByteArray) : Sp (cx Tryz.prog mixed tyT_ok E) 48 [encStrs l, encStrs l] (dB true) := by
  refine Sp.body Tryz.func48 (by kernel_rfl) rfl (by kernel_rfl) (by kernel_rfl) (by kernel_rfl) ?_
  repeat' first
    | (refine facW_intro ?_; intro _)
    | refine Or.inl ?_
    | ((conv => whnf); first | (refine condW_dec ?_ ?_ <;> intro _ <;> try (exfalso; omega)) | refine condW_not ?_ | (refine condW_bool ?_ ?_ <;> intro _ <;> try (exfalso; omega)) | (refine nbC_t (fun _ => ?_) ?_) | (refine nbC_f ?_ (fun _ => ?_)))
    | refine And.intro (by first | omega | (simp only [Int.toNat_natCast] at *; omega) | (simp only [Nat.reduceAdd, Int.cast_ofNat_Int, true_and, and_true]; omega) | kernel_rfl) ?_
    | refine RegW.run ?_
    | fail
  all_goals try (exfalso; rename_i h; exact h rfl)
  refine ⟨Nat, fun k => [(13, i64 k)], fun k => [], [], fun k => [], fun k => k ≤ l.length, fun k => l.length - k, ⟨0, by omega, ⟨[], ⟨by kernel_rfl, by kernel_rfl, by kernel_rfl, by kernel_rfl, by kernel_rfl, by kernel_rfl, by kernel_rfl⟩, (by repeat' first | exact trivial | exact rfl | kernel_rfl | exact Dle.of_eq rfl | exact MLe.of_eq rfl | exact Dle.i (by omega) | exact Dle.i (by simp only [Int.toNat_natCast] at *; omega) | exact Dle.nil | exact Dle.rc Dle.nil | exact Option.some_ne_none _ | exact Or.inl rfl | exact Or.inr trivial | omega | (simp only [Int.toNat_natCast] at *; omega) | (intro _ _ _ _; exact Dle.of_eq rfl) | refine And.intro ?_ ?_)⟩⟩, fun k hk => ?_⟩
  have hk : k ≤ l.length := hk
  repeat' first
    | (refine facW_intro ?_; intro _)
    | refine Or.inl ?_
    | ((conv => whnf); first | (refine condW_dec ?_ ?_ <;> intro _ <;> try (exfalso; omega)) | refine condW_not ?_ | (refine condW_bool ?_ ?_ <;> intro _ <;> try (exfalso; omega)) | (refine nbC_t (fun _ => ?_) ?_) | (refine nbC_f ?_ (fun _ => ?_)))
    | refine And.intro (by first | omega | (simp only [Int.toNat_natCast] at *; omega) | (simp only [Nat.reduceAdd, Int.cast_ofNat_Int, true_and, and_true]; omega) | kernel_rfl) ?_
    | refine RegW.run ?_
    | fail
  all_goals first
    | (exfalso; rename_i h; exact h rfl)
    | exact ⟨k + 1, by omega, ⟨[], ⟨by kernel_rfl, by kernel_rfl, by kernel_rfl, by kernel_rfl, by kernel_rfl, by kernel_rfl, by kernel_rfl⟩, (by repeat' first | exact trivial | exact rfl | kernel_rfl | exact Dle.of_eq rfl | exact MLe.of_eq rfl | exact Dle.i (by omega) | exact Dle.i (by simp only [Int.toNat_natCast] at *; omega) | exact Dle.nil | exact Dle.rc Dle.nil | exact Option.some_ne_none _ | exact Or.inl rfl | exact Or.inr trivial | omega | (simp only [Int.toNat_natCast] at *; omega) | (intro _ _ _ _; exact Dle.of_eq rfl) | refine And.intro ?_ ?_)⟩, by first | omega | (dsimp only; omega)⟩
    | exact Dle.refl _ _
    | trace_state
theorem alikeStrs_sp (l : List ByteArray) : Sp (cx Tryz.prog mixed tyT_ok E) 14 [.ifc 23 (encStrs l), .ifc 23 (encStrs l)] (dB true) := by
  have h1 := eqStrs_sp E l
  refine Sp.body Tryz.func14 (by kernel_rfl) rfl (by kernel_rfl) (by kernel_rfl) (by kernel_rfl) ?_
  repeat' first
    | (refine facW_intro ?_; intro _)
    | refine Or.inl ?_
    | ((conv => whnf); first | (refine condW_dec ?_ ?_ <;> intro _ <;> try (exfalso; omega)) | refine condW_not ?_ | (refine condW_bool ?_ ?_ <;> intro _ <;> try (exfalso; omega)) | (refine nbC_t (fun _ => ?_) ?_) | (refine nbC_f ?_ (fun _ => ?_)))
    | refine And.intro (by first | omega | (simp only [Int.toNat_natCast] at *; omega) | (simp only [Nat.reduceAdd, Int.cast_ofNat_Int, true_and, and_true]; omega) | kernel_rfl) ?_
    | refine RegW.run ?_
    | refine ⟨_, h1, ?_⟩
    | fail
  all_goals first
    | exact Dle.refl _ _
    | trace_state
theorem confRoutes_sp (hP : ∀ w, E.G w → P10 w) (v : Vu) (hw : v.wt ≤ 100000000) : Sp (cx Tryz.prog mixed tyT_ok E) 3 [encV v] (dB true) := by
  have h1 := cRoutes_sp E hP v hw
  have h2 := routesOf_sp E hP v hw
  generalize routesE v = q at h1 h2
  have h3 := alikeStrs_sp E q.1
  refine Sp.body Tryz.func3 (by kernel_rfl) rfl (by kernel_rfl) (by kernel_rfl) (by kernel_rfl) ?_
  repeat' first
    | (refine facW_intro ?_; intro _)
    | refine Or.inl ?_
    | ((conv => whnf); first | (refine condW_dec ?_ ?_ <;> intro _ <;> try (exfalso; omega)) | refine condW_not ?_ | (refine condW_bool ?_ ?_ <;> intro _ <;> try (exfalso; omega)) | (refine nbC_t (fun _ => ?_) ?_) | (refine nbC_f ?_ (fun _ => ?_)))
    | refine And.intro (by first | omega | (simp only [Int.toNat_natCast] at *; omega) | (simp only [Nat.reduceAdd, Int.cast_ofNat_Int, true_and, and_true]; omega) | kernel_rfl) ?_
    | refine RegW.run ?_
    | refine ⟨_, h1, ?_⟩
    | refine ⟨_, h2, ?_⟩
    | refine ⟨_, h3, ?_⟩
    | fail
  all_goals first
    | (exfalso; rename_i h; exact h rfl)
    | exact Dle.bo (by simp)
    | trace_state
end
end Go.Proofs.YtphmfejengmggaaGreatDoor
