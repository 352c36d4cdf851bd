/-
  The reference's RenderOf; the law.
-/
import Derived.Test.YtagggnjcpjodjaaI4
namespace Go.Proofs.Ytagggnjcpjodjaa
open Go.RowKit
set_option linter.unusedVariables false
set_option linter.unusedSimpArgs false
namespace img
theorem areaR_bound {W TW H TH : Int} {x y v k : Nat} (hW : 0 ≤ W) (hW2 : W ≤ 64) (hH : 0 ≤ H) (hH2 : H ≤ 64) (hk : k ≤ 64) : 0 ≤ areaR W TW H TH x y v k ∧ areaR W TW H TH x y v k ≤ 262144 := by
  obtain ⟨h1, h2⟩ := sumN_bound (f := fun u => ov W TW x u * ov H TH y v) (B := 4096) (a := k) (fun u hu => by
    have := ov_prod (H := H) (TH := TH) (W := W) (TW := TW) (y := y) (v := v) (x := x) (u := u) hH hH2 hW hW2
    rw [Int.mul_comm]
    exact ⟨this.2.2.2.2.1, this.2.2.2.2.2⟩)
  unfold areaR
  omega
theorem areaA_bound {W TW H TH : Int} {x y w k : Nat} (hW : 0 ≤ W) (hW2 : W ≤ 64) (hH : 0 ≤ H) (hH2 : H ≤ 64) (hw : w ≤ 64) (hk : k ≤ 64) : 0 ≤ areaA W TW H TH x y w k ∧ areaA W TW H TH x y w k ≤ 16777216 := by
  obtain ⟨h1, h2⟩ := sumN_bound (f := fun v => areaR W TW H TH x y v w) (B := 262144) (a := k) (fun v hv => areaR_bound hW hW2 hH hH2 hw)
  unfold areaA
  omega
section
variable (E : Env)
set_option maxRecDepth 100000
theorem roverlap_sp (i n t k : Nat) (h : i ≤ 64 ∧ n ≤ 64 ∧ t ≤ 64 ∧ k ≤ 64) : Sp (cx Try.prog mixed tyT_ok E) 22 [i64 i, i64 n, i64 t, i64 k] (i64 (ov n t i k)) := by
  obtain ⟨h1, h2, h3, h4⟩ := h
  have b1 := prod_le (a := i) (b := n) (A := 64) (B := 64) (by omega) (by omega)
  have b2 := prod_le (a := k) (b := t) (A := 64) (B := 64) (by omega) (by omega)
  have b3 : ((i : Int) + 1) * (n : Int) = (i : Int) * n + n := by rw [Int.add_mul, Int.one_mul]
  have b4 : ((k : Int) + 1) * (t : Int) = (k : Int) * t + t := by rw [Int.add_mul, Int.one_mul]
  refine Sp.body Try.func22 (by kernel_rfl) rfl (by kernel_rfl) (by kernel_rfl) (by kernel_rfl) ?_
  repeat' first
    | (refine facW_intro ?_; intro _)
    | refine Or.inl ?_
    | ((conv => whnf); first | (refine condW_dec ?_ ?_ <;> intro _ <;> try (exfalso; omega)) | refine condW_not ?_ | (refine condW_bool ?_ ?_ <;> intro _ <;> try (exfalso; omega)) | (refine nbC_t (fun _ => ?_) ?_) | (refine nbC_f ?_ (fun _ => ?_)))
    | refine And.intro (by first | omega | (simp only [Int.toNat_natCast] at *; omega) | (simp only [Nat.reduceAdd, Int.cast_ofNat_Int, true_and, and_true]; omega) | kernel_rfl) ?_
    | refine RegW.run ?_
    | fail
  all_goals first
    | exact Dle.i (by unfold ov; rfl)
    | trace_state
theorem rounded_sp (a b : Int) (h : 0 ≤ a ∧ a ≤ 1000000000 ∧ 1 ≤ b ∧ b ≤ 1000000000) : Sp (cx Try.prog mixed tyT_ok E) 23 [i64 a, i64 b] (i64 ((2 * a + b) / (2 * b))) := by
  have q5 : 0 ≤ (2 * a + b) / (2 * b) ∧ (2 * a + b) / (2 * b) ≤ 2 * a + b := ⟨Int.ediv_nonneg (by omega) (by omega), Int.ediv_le_self _ (by omega)⟩
  refine Sp.body Try.func23 (by kernel_rfl) rfl (by kernel_rfl) (by kernel_rfl) (by kernel_rfl) ?_
  repeat' first
    | (refine facW_intro ?_; intro _)
    | refine Or.inl ?_
    | ((conv => whnf); first | (refine condW_dec ?_ ?_ <;> intro _ <;> try (exfalso; omega)) | refine condW_not ?_ | (refine condW_bool ?_ ?_ <;> intro _ <;> try (exfalso; omega)) | (refine nbC_t (fun _ => ?_) ?_) | (refine nbC_f ?_ (fun _ => ?_)))
    | refine And.intro (by first | omega | (simp only [Int.toNat_natCast] at *; omega) | (simp only [Nat.reduceAdd, Int.cast_ofNat_Int, true_and, and_true]; omega) | kernel_rfl) ?_
    | refine RegW.run ?_
    | fail
  all_goals first
    | exact Dle.refl _ _
    | trace_state
set_option maxHeartbeats 40000000 in
theorem renderOf_sp (w h : Int) (lv : List Int) (X Y W H TW TH : Int) (hl : lv.length ≤ 100000000000000) : Sp (cx Try.prog mixed tyT_ok E) 7 [encImg w h lv, encCut X Y W H TW TH] (encI (rend w h lv X Y W H TW TH)) := by
  have h1 := ref_img_sp E w h lv hl
  obtain ⟨r, hr⟩ : ∃ r, r = rend w h lv X Y W H TW TH := ⟨_, rfl⟩
  rw [← hr]
  unfold rend at hr
  have hend : ∀ (e : Img) (c : Int), e = errI c → Dle (cx Try.prog mixed tyT_ok E) (.tup [.agg [i64 0, i64 0, .v (.slice none 0 0)], i64 c]) (encI e) := fun e c h => by rw [h]; exact Dle.tup (X := (cx Try.prog mixed tyT_ok E)) ⟨Dle.agg (X := (cx Try.prog mixed tyT_ok E)) ⟨Dle.refl _ _, Dle.refl _ _, Dle.nil (X := (cx Try.prog mixed tyT_ok E)), trivial⟩, Dle.refl _ _, trivial⟩
  by_cases h0 : imgF w h lv = 0
  · rw [if_pos h0] at hr
    obtain ⟨w1, w2, h2, h3, hlen, hlv⟩ := imgF_ok h0
    rw [h0] at h1
    by_cases hc : cutOk w h X Y W H TW TH
    · rw [if_pos hc] at hr
      obtain ⟨c1, c2, c3, c4, c5, c6, c7, c8, c9, c10, c11, c12⟩ := hc
      obtain ⟨iw, rfl⟩ := Int.eq_ofNat_of_zero_le (show 0 ≤ w by omega)
      obtain ⟨ih, rfl⟩ := Int.eq_ofNat_of_zero_le (show 0 ≤ h by omega)
      obtain ⟨X, rfl⟩ := Int.eq_ofNat_of_zero_le c1
      obtain ⟨Y, rfl⟩ := Int.eq_ofNat_of_zero_le c2
      obtain ⟨W, rfl⟩ := Int.eq_ofNat_of_zero_le (show 0 ≤ W by omega)
      obtain ⟨H, rfl⟩ := Int.eq_ofNat_of_zero_le (show 0 ≤ H by omega)
      obtain ⟨TW, rfl⟩ := Int.eq_ofNat_of_zero_le (show 0 ≤ TW by omega)
      obtain ⟨TH, rfl⟩ := Int.eq_ofNat_of_zero_le (show 0 ≤ TH by omega)
      simp only [Int.toNat_natCast] at hr
      have hA := prod_le (a := W) (b := H) (A := 64) (B := 64) (by omega) (by omega)
      have hA1 : (1 : Int) ≤ (W : Int) * H := Int.mul_pos (by omega) (by omega)
      have hT := Nat.mul_le_mul (show TH ≤ 64 by omega) (show TW ≤ 64 by omega)
      refine Sp.body Try.func7 (by kernel_rfl) rfl (by kernel_rfl) (by kernel_rfl) (by kernel_rfl) ?_
      repeat' first
        | (refine facW_intro ?_; intro _)
        | refine Or.inl ?_
        | ((conv => whnf); first | (refine condW_dec ?_ ?_ <;> intro _ <;> try (exfalso; omega)) | refine condW_not ?_ | (refine condW_bool ?_ ?_ <;> intro _ <;> try (exfalso; omega)) | (refine nbC_t (fun _ => ?_) ?_) | (refine nbC_f ?_ (fun _ => ?_)))
        | refine And.intro (by first | omega | (simp only [Int.toNat_natCast] at *; omega) | (simp only [Nat.reduceAdd, Int.cast_ofNat_Int, true_and, and_true]; omega) | kernel_rfl) ?_
        | refine RegW.run ?_
        | refine ⟨_, h1, ?_⟩
        | fail
      all_goals try (exfalso; rename_i h; exact h rfl)
      refine ⟨Nat, fun y => [(105, i64 y)], fun y => [(7, .cells [i64 TW, i64 TH, .own 105 1 0 (outL lv X Y iw W H TW TH (y * TW)).length])], [2, 3, 4], fun y => [(105, 3, (outL lv X Y iw W H TW TH (y * TW)).length, fun i j => i64 ((outL lv X Y iw W H TW TH (y * TW)).getD i 0))], fun y => y ≤ TH, fun y => TH - y, ⟨0, by omega, ⟨[(105, none)], ⟨by kernel_rfl, by kernel_rfl, by kernel_rfl, by kernel_rfl, by kernel_rfl, by kernel_rfl, by kernel_rfl⟩, (by repeat' first | ((rw [Nat.zero_mul, outL_0]; rfl)) | exact trivial | exact rfl | kernel_rfl | exact Dle.of_eq rfl | exact MLe.of_eq rfl | exact Dle.i (by omega) | exact Dle.i (by simp only [Int.toNat_natCast] at *; omega) | exact Dle.nil | exact Dle.rc Dle.nil | exact Option.some_ne_none _ | exact Or.inl rfl | exact Or.inr trivial | omega | (simp only [Int.toNat_natCast] at *; omega) | (intro _ _ _ _; exact Dle.of_eq rfl) | refine And.intro ?_ ?_)⟩⟩, fun y hy => ?_⟩
      have hy : y ≤ TH := hy
      repeat (rename_i hclr; clear hclr)
      have hle : ∀ n, (outL lv X Y iw W H TW TH n).length = n := outL_len lv X Y iw W H TW TH
      by_cases hlt : y < TH
      · have hT2 : (y + 1) * TW ≤ TH * TW := Nat.mul_le_mul_right _ hlt
        rw [Nat.succ_mul] at hT2
        repeat' first
          | (refine facW_intro ?_; intro _)
          | refine Or.inl ?_
          | ((conv => whnf); first | (refine condW_dec ?_ ?_ <;> intro _ <;> try (exfalso; omega)) | refine condW_not ?_ | (refine condW_bool ?_ ?_ <;> intro _ <;> try (exfalso; omega)) | (refine nbC_t (fun _ => ?_) ?_) | (refine nbC_f ?_ (fun _ => ?_)))
          | refine And.intro (by first | omega | (simp only [Int.toNat_natCast] at *; omega) | (simp only [Nat.reduceAdd, Int.cast_ofNat_Int, true_and, and_true]; omega) | kernel_rfl) ?_
          | refine RegW.run ?_
          | fail
        refine ⟨Nat, fun x => [(110, i64 x)], fun x => [(7, .cells [i64 TW, i64 TH, .own 110 1 0 (outL lv X Y iw W H TW TH (y * TW + x)).length])], [2, 3, 4], fun x => [(110, 3, (outL lv X Y iw W H TW TH (y * TW + x)).length, fun i j => i64 ((outL lv X Y iw W H TW TH (y * TW + x)).getD i 0))], fun x => x ≤ TW, fun x => TW - x, ⟨0, by omega, ⟨[(110, some 105)], ⟨by kernel_rfl, by kernel_rfl, by kernel_rfl, by kernel_rfl, by kernel_rfl, by kernel_rfl, by kernel_rfl⟩, (by repeat' first | exact trivial | exact rfl | kernel_rfl | exact Dle.of_eq rfl | exact MLe.of_eq rfl | exact Dle.i (by omega) | exact Dle.i (by simp only [Int.toNat_natCast] at *; omega) | exact Dle.nil | exact Dle.rc Dle.nil | exact Option.some_ne_none _ | exact Or.inl rfl | exact Or.inr trivial | omega | (simp only [Int.toNat_natCast] at *; omega) | (intro _ _ _ _; exact Dle.of_eq rfl) | refine And.intro ?_ ?_)⟩⟩, fun x hx => ?_⟩
        have hx : x ≤ TW := hx
        repeat (rename_i hclr; clear hclr)
        by_cases hlx : x < TW
        · have hlb : ∀ v u, v < H → u < W → 0 ≤ lvAt lv X Y iw v u ∧ lvAt lv X Y iw v u ≤ 15 := fun v u hv hu => by
            have := lv_place (X := X) (Y := Y) (iw := iw) (ih := ih) (v := v) (u := u) (by omega) (by omega) hv hu
            refine hlv _ ?_
            have e : ((ih * iw : Nat) : Int) = (iw : Int) * ih := by push_cast; rw [Int.mul_comm]
            omega
          have z1 := allS_0 W TW H TH x y (lvAt lv X Y iw) W
          have z2 := areaA_0 W TW H TH x y W
          repeat' first
            | (refine facW_intro ?_; intro _)
            | refine Or.inl ?_
            | ((conv => whnf); first | (refine condW_dec ?_ ?_ <;> intro _ <;> try (exfalso; omega)) | refine condW_not ?_ | (refine condW_bool ?_ ?_ <;> intro _ <;> try (exfalso; omega)) | (refine nbC_t (fun _ => ?_) ?_) | (refine nbC_f ?_ (fun _ => ?_)))
            | refine And.intro (by first | omega | (simp only [Int.toNat_natCast] at *; omega) | (simp only [Nat.reduceAdd, Int.cast_ofNat_Int, true_and, and_true]; omega) | kernel_rfl) ?_
            | refine RegW.run ?_
            | fail
          refine ⟨Nat, fun v => [(115, i64 v), (11, i64 (allS W TW H TH x y (lvAt lv X Y iw) W v)), (12, i64 (areaA W TW H TH x y W v))], fun v => [], [2, 3, 4, 7, 110], fun v => [], fun v => v ≤ H, fun v => H - v, ⟨0, by omega, ⟨[], ⟨by kernel_rfl, by kernel_rfl, by kernel_rfl, by kernel_rfl, by kernel_rfl, by kernel_rfl, by kernel_rfl⟩, (by repeat' first | (exact Dle.i (by omega)) | exact trivial | exact rfl | kernel_rfl | exact Dle.of_eq rfl | exact MLe.of_eq rfl | exact Dle.i (by omega) | exact Dle.i (by simp only [Int.toNat_natCast] at *; omega) | exact Dle.nil | exact Dle.rc Dle.nil | exact Option.some_ne_none _ | exact Or.inl rfl | exact Or.inr trivial | omega | (simp only [Int.toNat_natCast] at *; omega) | (intro _ _ _ _; exact Dle.of_eq rfl) | refine And.intro ?_ ?_)⟩⟩, fun v hv => ?_⟩
          have hv : v ≤ H := hv
          repeat (rename_i hclr; clear hclr)
          have s1 := allS_bound (W := W) (TW := TW) (H := H) (TH := TH) (x := x) (y := y) (lv := lvAt lv X Y iw) (w := W) (k := v) (by omega) (by omega) (by omega) (by omega) (by omega) (by omega) (fun v' u h1 h2 => hlb v' u (by omega) h2)
          have s3 := areaA_bound (W := W) (TW := TW) (H := H) (TH := TH) (x := x) (y := y) (w := W) (k := v) (by omega) (by omega) (by omega) (by omega) (by omega) (by omega)
          by_cases hv1 : v < H
          · have z3 := rowS_0 W TW H TH x y (lvAt lv X Y iw) v
            have z4 := areaR_0 W TW H TH x y v
            repeat' first
              | (refine facW_intro ?_; intro _)
              | refine Or.inl ?_
              | ((conv => whnf); first | (refine condW_dec ?_ ?_ <;> intro _ <;> try (exfalso; omega)) | refine condW_not ?_ | (refine condW_bool ?_ ?_ <;> intro _ <;> try (exfalso; omega)) | (refine nbC_t (fun _ => ?_) ?_) | (refine nbC_f ?_ (fun _ => ?_)))
              | refine And.intro (by first | omega | (simp only [Int.toNat_natCast] at *; omega) | (simp only [Nat.reduceAdd, Int.cast_ofNat_Int, true_and, and_true]; omega) | kernel_rfl) ?_
              | refine RegW.run ?_
              | fail
            refine ⟨Nat, fun u => [(120, i64 u), (11, i64 (allS W TW H TH x y (lvAt lv X Y iw) W v + rowS W TW H TH x y (lvAt lv X Y iw) v u)), (12, i64 (areaA W TW H TH x y W v + areaR W TW H TH x y v u))], fun u => [], [2, 3, 4, 7, 110], fun u => [], fun u => u ≤ W, fun u => W - u, ⟨0, by omega, ⟨[], ⟨by kernel_rfl, by kernel_rfl, by kernel_rfl, by kernel_rfl, by kernel_rfl, by kernel_rfl, by kernel_rfl⟩, (by repeat' first | (exact Dle.i (by omega)) | exact trivial | exact rfl | kernel_rfl | exact Dle.of_eq rfl | exact MLe.of_eq rfl | exact Dle.i (by omega) | exact Dle.i (by simp only [Int.toNat_natCast] at *; omega) | exact Dle.nil | exact Dle.rc Dle.nil | exact Option.some_ne_none _ | exact Or.inl rfl | exact Or.inr trivial | omega | (simp only [Int.toNat_natCast] at *; omega) | (intro _ _ _ _; exact Dle.of_eq rfl) | refine And.intro ?_ ?_)⟩⟩, fun u hu => ?_⟩
            have hu : u ≤ W := hu
            repeat (rename_i hclr; clear hclr)
            have s2 := rowS_bound (W := W) (TW := TW) (H := H) (TH := TH) (x := x) (y := y) (lv := lvAt lv X Y iw) (v := v) (k := u) (by omega) (by omega) (by omega) (by omega) (by omega) (fun u' h2 => hlb v u' hv1 (by omega))
            have s4 := areaR_bound (W := W) (TW := TW) (H := H) (TH := TH) (x := x) (y := y) (v := v) (k := u) (by omega) (by omega) (by omega) (by omega) (by omega)
            by_cases hu1 : u < W
            · have hwide := roverlap_sp E x W TW u (by omega)
              have hhigh := roverlap_sp E y H TH v (by omega)
              have p1 := lv_place (X := X) (Y := Y) (iw := iw) (ih := ih) (v := v) (u := u) (by omega) (by omega) hv1 hu1
              have e5 : ((ih * iw : Nat) : Int) = (iw : Int) * ih := by push_cast; rw [Int.mul_comm]
              have p2 := prod_le (a := iw) (b := ih) (A := 64) (B := 64) (by omega) (by omega)
              have p3 := ov_prod (H := H) (TH := TH) (W := W) (TW := TW) (y := y) (v := v) (x := x) (u := u) (by omega) (by omega) (by omega) (by omega)
              rw [Int.mul_comm (ov H TH y v)] at p3
              have p4 : 0 ≤ lv.getD ((((Y : Int) + (v : Int)) * (iw : Int) + (X : Int) + (u : Int)).toNat) 0 ∧ lv.getD ((((Y : Int) + (v : Int)) * (iw : Int) + (X : Int) + (u : Int)).toNat) 0 ≤ 15 := hlb v u hv1 hu1
              have p5 := lv_prod p3.2.2.2.2.1 p3.2.2.2.2.2 p4.1 p4.2
              have hrow : rowS W TW H TH x y (lvAt lv X Y iw) v (u + 1) = rowS W TW H TH x y (lvAt lv X Y iw) v u + ov W TW x u * ov H TH y v * lv.getD ((((Y : Int) + (v : Int)) * (iw : Int) + (X : Int) + (u : Int)).toNat) 0 := by
                rw [Int.mul_comm (ov W TW x u)]
                exact rowS_s _ _ _ _ _ _ _ _ _
              have hare : areaR W TW H TH x y v (u + 1) = areaR W TW H TH x y v u + ov W TW x u * ov H TH y v := areaR_s _ _ _ _ _ _ _ _
              have hb9 : X ≤ 64 ∧ Y ≤ 64 ∧ iw ≤ 64 ∧ ih ≤ 64 ∧ W ≤ 64 ∧ H ≤ 64 := by omega
              clear hlb hlv hle hend hr h1 h0 hA hA1 hT hT2 w1 w2 h2 h3 c1 c2 c3 c4 c5 c6 c7 c8 c9 c10 c11 c12 hl hy hlt hx hlx hv
              repeat' first
                | (refine facW_intro ?_; intro _)
                | refine Or.inl ?_
                | ((conv => whnf); first | (refine condW_dec ?_ ?_ <;> intro _ <;> try (exfalso; omega)) | refine condW_not ?_ | (refine condW_bool ?_ ?_ <;> intro _ <;> try (exfalso; omega)) | (refine nbC_t (fun _ => ?_) ?_) | (refine nbC_f ?_ (fun _ => ?_)))
                | refine And.intro (by first | omega | (simp only [Int.toNat_natCast] at *; omega) | (simp only [Nat.reduceAdd, Int.cast_ofNat_Int, true_and, and_true]; omega) | kernel_rfl) ?_
                | refine RegW.run ?_
                | refine ⟨_, hwide, ?_⟩
                | refine ⟨_, hhigh, ?_⟩
                | fail
              all_goals first
                | exact ⟨u + 1, by omega, ⟨[], ⟨by kernel_rfl, by kernel_rfl, by kernel_rfl, by kernel_rfl, by kernel_rfl, by kernel_rfl, by kernel_rfl⟩, (by repeat' first | (exact Dle.i (by omega)) | exact trivial | exact rfl | kernel_rfl | exact Dle.of_eq rfl | exact MLe.of_eq rfl | exact Dle.i (by omega) | exact Dle.i (by simp only [Int.toNat_natCast] at *; omega) | exact Dle.nil | exact Dle.rc Dle.nil | exact Option.some_ne_none _ | exact Or.inl rfl | exact Or.inr trivial | omega | (simp only [Int.toNat_natCast] at *; omega) | (intro _ _ _ _; exact Dle.of_eq rfl) | refine And.intro ?_ ?_)⟩, by first | omega | (dsimp only; omega)⟩
                | trace_state
            · have hu2 : u = W := by omega
              subst hu2
              have e3 : allS u TW H TH x y (lvAt lv X Y iw) u (v + 1) = allS u TW H TH x y (lvAt lv X Y iw) u v + rowS u TW H TH x y (lvAt lv X Y iw) v u := allS_s _ _ _ _ _ _ _ _ _
              have e4 : areaA u TW H TH x y u (v + 1) = areaA u TW H TH x y u v + areaR u TW H TH x y v u := areaA_s _ _ _ _ _ _ _ _
              have hb9 : X ≤ 64 ∧ Y ≤ 64 ∧ iw ≤ 64 ∧ ih ≤ 64 ∧ u ≤ 64 ∧ H ≤ 64 := by omega
              clear hlb hlv hle hend hr h1 h0 hA hA1 hT hT2 w1 w2 h2 h3 c1 c2 c3 c4 c5 c6 c7 c8 c9 c10 c11 c12 hl hy hlt hx hlx
              repeat' first
                | (refine facW_intro ?_; intro _)
                | refine Or.inl ?_
                | ((conv => whnf); first | (refine condW_dec ?_ ?_ <;> intro _ <;> try (exfalso; omega)) | refine condW_not ?_ | (refine condW_bool ?_ ?_ <;> intro _ <;> try (exfalso; omega)) | (refine nbC_t (fun _ => ?_) ?_) | (refine nbC_f ?_ (fun _ => ?_)))
                | refine And.intro (by first | omega | (simp only [Int.toNat_natCast] at *; omega) | (simp only [Nat.reduceAdd, Int.cast_ofNat_Int, true_and, and_true]; omega) | kernel_rfl) ?_
                | refine RegW.run ?_
                | fail
              all_goals first
                | exact ⟨v + 1, by omega, ⟨[], ⟨by kernel_rfl, by kernel_rfl, by kernel_rfl, by kernel_rfl, by kernel_rfl, by kernel_rfl, by kernel_rfl⟩, (by repeat' first | (exact Dle.i (by omega)) | exact trivial | exact rfl | kernel_rfl | exact Dle.of_eq rfl | exact MLe.of_eq rfl | exact Dle.i (by omega) | exact Dle.i (by simp only [Int.toNat_natCast] at *; omega) | exact Dle.nil | exact Dle.rc Dle.nil | exact Option.some_ne_none _ | exact Or.inl rfl | exact Or.inr trivial | omega | (simp only [Int.toNat_natCast] at *; omega) | (intro _ _ _ _; exact Dle.of_eq rfl) | refine And.intro ?_ ?_)⟩, by first | omega | (dsimp only; omega)⟩
                | trace_state
          · have hv2 : v = H := by omega
            subst hv2
            have e2 := areaA_eq (W := W) (TW := TW) (H := v) (TH := TH) (x := x) (y := y) (by omega) hlx (by omega) hlt
            have e3 := outL_next (lv := lv) (X := X) (Y := Y) (iw := iw) (W := W) (H := v) (TW := TW) (TH := TH) (y := y) (x := x) hlx
            unfold val at e3
            rw [← e2] at e3 hA hA1
            have h5 := rounded_sp E (allS W TW v TH x y (lvAt lv X Y iw) W v) (areaA W TW v TH x y W v) (by omega)
            have e6 := hle (y * TW + x)
            clear hlb hlv hend hr h1 h0 w1 w2 h2 h3 c1 c2 c5 c6 c7 c8 c9 c10 c11 c12 hl
            have e4 : (outL lv X Y iw W v TW TH (y * TW + x)).length + 1 = (outL lv X Y iw W v TW TH (y * TW + (x + 1))).length := by rw [hle, hle]; rfl
            repeat' first
              | (refine facW_intro ?_; intro _)
              | refine Or.inl ?_
              | ((conv => whnf); first | (refine condW_dec ?_ ?_ <;> intro _ <;> try (exfalso; omega)) | refine condW_not ?_ | (refine condW_bool ?_ ?_ <;> intro _ <;> try (exfalso; omega)) | (refine nbC_t (fun _ => ?_) ?_) | (refine nbC_f ?_ (fun _ => ?_)))
              | refine And.intro (by first | omega | (simp only [Int.toNat_natCast] at *; omega) | (simp only [Nat.reduceAdd, Int.cast_ofNat_Int, true_and, and_true]; omega) | kernel_rfl) ?_
              | refine RegW.run ?_
              | refine ⟨_, h5, ?_⟩
              | fail
            all_goals first
              | exact ⟨x + 1, by omega, ⟨[(110, some 171)], ⟨by kernel_rfl, by kernel_rfl, by kernel_rfl, by kernel_rfl, by kernel_rfl, by kernel_rfl, by kernel_rfl⟩, (by repeat' first | (exact e4) | exact trivial | exact rfl | kernel_rfl | exact Dle.of_eq rfl | exact MLe.of_eq rfl | exact Dle.i (by omega) | exact Dle.i (by simp only [Int.toNat_natCast] at *; omega) | exact Dle.nil | exact Dle.rc Dle.nil | exact Option.some_ne_none _ | exact Or.inl rfl | exact Or.inr trivial | omega | (simp only [Int.toNat_natCast] at *; omega) | (intro _ _ _ _; exact Dle.of_eq rfl) | (intro i j hi hj; (rw [show y * TW + (x + 1) = y * TW + x + 1 from rfl, e3]; exact row_int E _ _ i j hi hj)) | refine And.intro ?_ ?_)⟩, by first | omega | (dsimp only; omega)⟩
              | trace_state
        · have e4 : y * TW + x = (y + 1) * TW := by rw [show x = TW by omega, Nat.succ_mul]
          repeat' first
            | (refine facW_intro ?_; intro _)
            | refine Or.inl ?_
            | ((conv => whnf); first | (refine condW_dec ?_ ?_ <;> intro _ <;> try (exfalso; omega)) | refine condW_not ?_ | (refine condW_bool ?_ ?_ <;> intro _ <;> try (exfalso; omega)) | (refine nbC_t (fun _ => ?_) ?_) | (refine nbC_f ?_ (fun _ => ?_)))
            | refine And.intro (by first | omega | (simp only [Int.toNat_natCast] at *; omega) | (simp only [Nat.reduceAdd, Int.cast_ofNat_Int, true_and, and_true]; omega) | kernel_rfl) ?_
            | refine RegW.run ?_
            | fail
          all_goals first
            | exact ⟨y + 1, by omega, ⟨[(105, some 110)], ⟨by kernel_rfl, by kernel_rfl, by kernel_rfl, by kernel_rfl, by kernel_rfl, by kernel_rfl, by kernel_rfl⟩, (by repeat' first | ((rw [e4])) | exact trivial | exact rfl | kernel_rfl | exact Dle.of_eq rfl | exact MLe.of_eq rfl | exact Dle.i (by omega) | exact Dle.i (by simp only [Int.toNat_natCast] at *; omega) | exact Dle.nil | exact Dle.rc Dle.nil | exact Option.some_ne_none _ | exact Or.inl rfl | exact Or.inr trivial | omega | (simp only [Int.toNat_natCast] at *; omega) | (intro _ _ _ _; exact Dle.of_eq rfl) | (intro i j hi hj; (rw [e4]; exact Dle.refl _ _)) | refine And.intro ?_ ?_)⟩, by first | omega | (dsimp only; omega)⟩
            | trace_state
      · have hy2 : y = TH := by omega
        subst hy2
        subst hr
        repeat' first
          | (refine facW_intro ?_; intro _)
          | refine Or.inl ?_
          | ((conv => whnf); first | (refine condW_dec ?_ ?_ <;> intro _ <;> try (exfalso; omega)) | refine condW_not ?_ | (refine condW_bool ?_ ?_ <;> intro _ <;> try (exfalso; omega)) | (refine nbC_t (fun _ => ?_) ?_) | (refine nbC_f ?_ (fun _ => ?_)))
          | refine And.intro (by first | omega | (simp only [Int.toNat_natCast] at *; omega) | (simp only [Nat.reduceAdd, Int.cast_ofNat_Int, true_and, and_true]; omega) | kernel_rfl) ?_
          | refine RegW.run ?_
          | fail
        all_goals first
          | exact Dle.refl _ _
          | trace_state
    · rw [if_neg hc] at hr
      refine Sp.body Try.func7 (by kernel_rfl) rfl (by kernel_rfl) (by kernel_rfl) (by kernel_rfl) ?_
      repeat' first
        | (refine facW_intro ?_; intro _)
        | refine Or.inl ?_
        | ((conv => whnf); first | (refine condW_dec ?_ ?_ <;> intro _ <;> try (exfalso; omega)) | refine condW_not ?_ | (refine condW_bool ?_ ?_ <;> intro _ <;> try (exfalso; omega)) | (refine nbC_t (fun _ => ?_) ?_) | (refine nbC_f ?_ (fun _ => ?_)))
        | refine And.intro (by first | omega | (simp only [Int.toNat_natCast] at *; omega) | (simp only [Nat.reduceAdd, Int.cast_ofNat_Int, true_and, and_true]; omega) | kernel_rfl) ?_
        | refine RegW.run ?_
        | refine ⟨_, h1, ?_⟩
        | fail
      all_goals first
        | (exfalso; rename_i h; exact h rfl)
        | exact hend _ _ hr
        | (exfalso; exact hc (by unfold cutOk; omega))
        | trace_state
  · rw [if_neg h0] at hr
    generalize imgF w h lv = c at h1 hr h0
    refine Sp.body Try.func7 (by kernel_rfl) rfl (by kernel_rfl) (by kernel_rfl) (by kernel_rfl) ?_
    repeat' first
      | (refine facW_intro ?_; intro _)
      | refine Or.inl ?_
      | ((conv => whnf); first | (refine condW_dec ?_ ?_ <;> intro _ <;> try (exfalso; omega)) | refine condW_not ?_ | (refine condW_bool ?_ ?_ <;> intro _ <;> try (exfalso; omega)) | (refine nbC_t (fun _ => ?_) ?_) | (refine nbC_f ?_ (fun _ => ?_)))
      | refine And.intro (by first | omega | (simp only [Int.toNat_natCast] at *; omega) | (simp only [Nat.reduceAdd, Int.cast_ofNat_Int, true_and, and_true]; omega) | kernel_rfl) ?_
      | refine RegW.run ?_
      | refine ⟨_, h1, ?_⟩
      | fail
    all_goals first
      | exact hend _ _ hr
      | (exfalso; exact h0 (by assumption))
      | trace_state
theorem imageRenders_sp (w h : Int) (lv : List Int) (X Y W H TW TH : Int) (hl : lv.length ≤ 100000000000000) : Sp (cx Try.prog mixed tyT_ok E) 3 [encImg w h lv, encCut X Y W H TW TH] (dB true) := by
  have h1 := render_sp E w h lv X Y W H TW TH hl
  have h2 := renderOf_sp E w h lv X Y W H TW TH hl
  generalize rend w h lv X Y W H TW TH = q at h1 h2
  have h3 := alikeImg_sp E q.w q.h q.lv
  refine Sp.body Try.func3 (by kernel_rfl) rfl (by kernel_rfl) (by kernel_rfl) (by kernel_rfl) ?_
  repeat' first
    | (refine facW_intro ?_; intro _)
    | refine Or.inl ?_
    | ((conv => whnf); first | (refine condW_dec ?_ ?_ <;> intro _ <;> try (exfalso; omega)) | refine condW_not ?_ | (refine condW_bool ?_ ?_ <;> intro _ <;> try (exfalso; omega)) | (refine nbC_t (fun _ => ?_) ?_) | (refine nbC_f ?_ (fun _ => ?_)))
    | refine And.intro (by first | omega | (simp only [Int.toNat_natCast] at *; omega) | (simp only [Nat.reduceAdd, Int.cast_ofNat_Int, true_and, and_true]; omega) | kernel_rfl) ?_
    | refine RegW.run ?_
    | refine ⟨_, h1, ?_⟩
    | refine ⟨_, h2, ?_⟩
    | refine ⟨_, h3, ?_⟩
    | fail
  all_goals first
    | (exfalso; rename_i h; exact h rfl)
    | exact Dle.bo (by simp)
    | trace_state
end
end img
end Go.Proofs.Ytagggnjcpjodjaa
