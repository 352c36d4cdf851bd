/-
  asset.Render.
-/
import Derived.Test.YtagggnjcpjodjaaI3
namespace Go.Proofs.Ytagggnjcpjodjaa
open Go.RowKit
set_option linter.unusedVariables false
set_option linter.unusedSimpArgs false
namespace img
structure Img where
  w : Int
  h : Int
  lv : List Int
  e : Int
def errI (e : Int) : Img := ⟨0, 0, [], e⟩
def encI (r : Img) : DD := .tup [encImg r.w r.h r.lv, i64 r.e]
/-- What a cut of an image is. -/
def rend (w h : Int) (lv : List Int) (X Y W H TW TH : Int) : Img := if imgF w h lv = 0 then (if cutOk w h X Y W H TW TH then ⟨TW, TH, outL lv X.toNat Y.toNat w.toNat W.toNat H.toNat TW.toNat TH.toNat (TH.toNat * TW.toNat), 0⟩ else errI 2) else errI (imgF w h lv)
theorem imgF_ok {w h : Int} {lv : List Int} (h0 : imgF w h lv = 0) : 1 ≤ w ∧ w ≤ 64 ∧ 1 ≤ h ∧ h ≤ 64 ∧ (lv.length : Int) = w * h ∧ ∀ i, i < lv.length → 0 ≤ lv.getD i 0 ∧ lv.getD i 0 ≤ 15 := by
  unfold imgF at h0
  split at h0
  · rename_i h1
    split at h0
    · rename_i h2
      split at h0
      · rename_i h3
        have h4 := allN_iff.1 h3
        obtain ⟨g1, g2⟩ := h1
        unfold sideB at g1 g2
        simp only [Bool.and_eq_true, decide_eq_true_eq] at g1 g2
        refine ⟨g1.1, g1.2, g2.1, g2.2, h2, fun i hi => ?_⟩
        have := h4 i hi
        unfold lvOk at this
        simpa using this
      · omega
    · omega
  · omega
section
variable (E : Env)
set_option maxRecDepth 100000
theorem overlap_sp (a b c d : Int) (h : -1000000 ≤ a ∧ a ≤ 1000000 ∧ -1000000 ≤ b ∧ b ≤ 1000000 ∧ -1000000 ≤ c ∧ c ≤ 1000000 ∧ -1000000 ≤ d ∧ d ≤ 1000000) : Sp (cx Try.prog mixed tyT_ok E) 20 [i64 a, i64 b, i64 c, i64 d] (i64 (max 0 (min b d - max a c))) := by
  refine Sp.body Try.func20 (by kernel_rfl) rfl (by kernel_rfl) (by kernel_rfl) (by kernel_rfl) ?_
  repeat' first
    | (refine facW_intro ?_; intro _)
    | refine Or.inl ?_
    | ((conv => whnf); first | (refine condW_dec ?_ ?_ <;> intro _ <;> try (exfalso; omega)) | refine condW_not ?_ | (refine condW_bool ?_ ?_ <;> intro _ <;> try (exfalso; omega)) | (refine nbC_t (fun _ => ?_) ?_) | (refine nbC_f ?_ (fun _ => ?_)))
    | refine And.intro (by first | omega | (simp only [Int.toNat_natCast] at *; omega) | (simp only [Nat.reduceAdd, Int.cast_ofNat_Int, true_and, and_true]; omega) | kernel_rfl) ?_
    | refine RegW.run ?_
    | fail
  all_goals exact Dle.refl _ _
set_option maxHeartbeats 8000000 in
theorem render_sp (w h : Int) (lv : List Int) (X Y W H TW TH : Int) (hl : lv.length ≤ 100000000000000) : Sp (cx Try.prog mixed tyT_ok E) 6 [encImg w h lv, encCut X Y W H TW TH] (encI (rend w h lv X Y W H TW TH)) := by
  have h1 := check_img_sp E w h lv hl
  obtain ⟨r, hr⟩ : ∃ r, r = rend w h lv X Y W H TW TH := ⟨_, rfl⟩
  rw [← hr]
  unfold rend at hr
  have hend : ∀ (e : Img) (c : Int), e = errI c → Dle (cx Try.prog mixed tyT_ok E) (.tup [.agg [i64 0, i64 0, .v (.slice none 0 0)], i64 c]) (encI e) := fun e c h => by rw [h]; exact Dle.tup (X := (cx Try.prog mixed tyT_ok E)) ⟨Dle.agg (X := (cx Try.prog mixed tyT_ok E)) ⟨Dle.refl _ _, Dle.refl _ _, Dle.nil (X := (cx Try.prog mixed tyT_ok E)), trivial⟩, Dle.refl _ _, trivial⟩
  by_cases h0 : imgF w h lv = 0
  · rw [if_pos h0] at hr
    obtain ⟨w1, w2, h2, h3, hlen, hlv⟩ := imgF_ok h0
    rw [h0] at h1
    by_cases hc : cutOk w h X Y W H TW TH
    · rw [if_pos hc] at hr
      obtain ⟨c1, c2, c3, c4, c5, c6, c7, c8, c9, c10, c11, c12⟩ := hc
      obtain ⟨iw, rfl⟩ := Int.eq_ofNat_of_zero_le (show 0 ≤ w by omega)
      obtain ⟨ih, rfl⟩ := Int.eq_ofNat_of_zero_le (show 0 ≤ h by omega)
      obtain ⟨X, rfl⟩ := Int.eq_ofNat_of_zero_le c1
      obtain ⟨Y, rfl⟩ := Int.eq_ofNat_of_zero_le c2
      obtain ⟨W, rfl⟩ := Int.eq_ofNat_of_zero_le (show 0 ≤ W by omega)
      obtain ⟨H, rfl⟩ := Int.eq_ofNat_of_zero_le (show 0 ≤ H by omega)
      obtain ⟨TW, rfl⟩ := Int.eq_ofNat_of_zero_le (show 0 ≤ TW by omega)
      obtain ⟨TH, rfl⟩ := Int.eq_ofNat_of_zero_le (show 0 ≤ TH by omega)
      simp only [Int.toNat_natCast] at hr
      have hA := prod_le (a := W) (b := H) (A := 64) (B := 64) (by omega) (by omega)
      have hA1 : (1 : Int) ≤ (W : Int) * H := Int.mul_pos (by omega) (by omega)
      have hT := Nat.mul_le_mul (show TH ≤ 64 by omega) (show TW ≤ 64 by omega)
      refine Sp.body Try.func6 (by kernel_rfl) rfl (by kernel_rfl) (by kernel_rfl) (by kernel_rfl) ?_
      repeat' first
        | (refine facW_intro ?_; intro _)
        | refine Or.inl ?_
        | ((conv => whnf); first | (refine condW_dec ?_ ?_ <;> intro _ <;> try (exfalso; omega)) | refine condW_not ?_ | (refine condW_bool ?_ ?_ <;> intro _ <;> try (exfalso; omega)) | (refine nbC_t (fun _ => ?_) ?_) | (refine nbC_f ?_ (fun _ => ?_)))
        | refine And.intro (by first | omega | (simp only [Int.toNat_natCast] at *; omega) | (simp only [Nat.reduceAdd, Int.cast_ofNat_Int, true_and, and_true]; omega) | kernel_rfl) ?_
        | refine RegW.run ?_
        | refine ⟨_, h1, ?_⟩
        | fail
      all_goals try (exfalso; rename_i h; exact h rfl)
      refine ⟨Nat, fun y => [(108, i64 y)], fun y => [(7, .cells [i64 TW, i64 TH, .own 108 1 0 (outL lv X Y iw W H TW TH (y * TW)).length])], [2, 3, 4], fun y => [(108, 3, (outL lv X Y iw W H TW TH (y * TW)).length, fun i j => i64 ((outL lv X Y iw W H TW TH (y * TW)).getD i 0))], fun y => y ≤ TH, fun y => TH - y, ⟨0, by omega, ⟨[(108, none)], ⟨by kernel_rfl, by kernel_rfl, by kernel_rfl, by kernel_rfl, by kernel_rfl, by kernel_rfl, by kernel_rfl⟩, (by repeat' first | ((rw [Nat.zero_mul, outL_0]; rfl)) | exact trivial | exact rfl | kernel_rfl | exact Dle.of_eq rfl | exact MLe.of_eq rfl | exact Dle.i (by omega) | exact Dle.i (by simp only [Int.toNat_natCast] at *; omega) | exact Dle.nil | exact Dle.rc Dle.nil | exact Option.some_ne_none _ | exact Or.inl rfl | exact Or.inr trivial | omega | (simp only [Int.toNat_natCast] at *; omega) | (intro _ _ _ _; exact Dle.of_eq rfl) | refine And.intro ?_ ?_)⟩⟩, fun y hy => ?_⟩
      have hy : y ≤ TH := hy
      have hle : ∀ n, (outL lv X Y iw W H TW TH n).length = n := outL_len lv X Y iw W H TW TH
      by_cases hlt : y < TH
      · have hz : y * TW + 0 = y * TW := rfl
        have hT2 : (y + 1) * TW ≤ TH * TW := Nat.mul_le_mul_right _ hlt
        rw [Nat.succ_mul] at hT2
        repeat' first
          | (refine facW_intro ?_; intro _)
          | refine Or.inl ?_
          | ((conv => whnf); first | (refine condW_dec ?_ ?_ <;> intro _ <;> try (exfalso; omega)) | refine condW_not ?_ | (refine condW_bool ?_ ?_ <;> intro _ <;> try (exfalso; omega)) | (refine nbC_t (fun _ => ?_) ?_) | (refine nbC_f ?_ (fun _ => ?_)))
          | refine And.intro (by first | omega | (simp only [Int.toNat_natCast] at *; omega) | (simp only [Nat.reduceAdd, Int.cast_ofNat_Int, true_and, and_true]; omega) | kernel_rfl) ?_
          | refine RegW.run ?_
          | fail
        refine ⟨Nat, fun x => [(113, i64 x)], fun x => [(7, .cells [i64 TW, i64 TH, .own 113 1 0 (outL lv X Y iw W H TW TH (y * TW + x)).length])], [2, 3, 4], fun x => [(113, 3, (outL lv X Y iw W H TW TH (y * TW + x)).length, fun i j => i64 ((outL lv X Y iw W H TW TH (y * TW + x)).getD i 0))], fun x => x ≤ TW, fun x => TW - x, ⟨0, by omega, ⟨[(113, some 108)], ⟨by kernel_rfl, by kernel_rfl, by kernel_rfl, by kernel_rfl, by kernel_rfl, by kernel_rfl, by kernel_rfl⟩, (by repeat' first | exact trivial | exact rfl | kernel_rfl | exact Dle.of_eq rfl | exact MLe.of_eq rfl | exact Dle.i (by omega) | exact Dle.i (by simp only [Int.toNat_natCast] at *; omega) | exact Dle.nil | exact Dle.rc Dle.nil | exact Option.some_ne_none _ | exact Or.inl rfl | exact Or.inr trivial | omega | (simp only [Int.toNat_natCast] at *; omega) | (intro _ _ _ _; exact Dle.of_eq rfl) | refine And.intro ?_ ?_)⟩⟩, fun x hx => ?_⟩
        have hx : x ≤ TW := hx
        by_cases hlx : x < TW
        · have b1 := prod_le (a := y) (b := H) (A := 64) (B := 64) (by omega) (by omega)
          have b2 := prod_le (a := x) (b := W) (A := 64) (B := 64) (by omega) (by omega)
          have b3 : ((y : Int) + 1) * (H : Int) = (y : Int) * H + H := by rw [Int.add_mul, Int.one_mul]
          have b4 : ((x : Int) + 1) * (W : Int) = (x : Int) * W + W := by rw [Int.add_mul, Int.one_mul]
          have q1 : 0 ≤ (y : Int) * H / TH ∧ (y : Int) * H / TH ≤ (y : Int) * H := ⟨Int.ediv_nonneg b1.1 (by omega), Int.ediv_le_self _ b1.1⟩
          have q2 : 0 ≤ (x : Int) * W / TW ∧ (x : Int) * W / TW ≤ (x : Int) * W := ⟨Int.ediv_nonneg b2.1 (by omega), Int.ediv_le_self _ b2.1⟩
          have q3 : (y : Int) * H / TH < H := Int.ediv_lt_of_lt_mul (by omega) (by rw [Int.mul_comm (H : Int)]; exact Int.mul_lt_mul_of_pos_right (by omega) (by omega))
          have q4 : (x : Int) * W / TW < W := Int.ediv_lt_of_lt_mul (by omega) (by rw [Int.mul_comm (W : Int)]; exact Int.mul_lt_mul_of_pos_right (by omega) (by omega))
          have hlb : ∀ v u, v < H → u < W → 0 ≤ lvAt lv X Y iw v u ∧ lvAt lv X Y iw v u ≤ 15 := fun v u hv hu => by
            have := lv_place (X := X) (Y := Y) (iw := iw) (ih := ih) (v := v) (u := u) (by omega) (by omega) hv hu
            refine hlv _ ?_
            have e : ((ih * iw : Nat) : Int) = (iw : Int) * ih := by push_cast; rw [Int.mul_comm]
            omega
          have e0 : allS W TW H TH x y (lvAt lv X Y iw) W ((y : Int) * H / TH).toNat = 0 := allS_none fun v hv => ov_early (by omega) (by omega)
          repeat' first
            | (refine facW_intro ?_; intro _)
            | refine Or.inl ?_
            | ((conv => whnf); first | (refine condW_dec ?_ ?_ <;> intro _ <;> try (exfalso; omega)) | refine condW_not ?_ | (refine condW_bool ?_ ?_ <;> intro _ <;> try (exfalso; omega)) | (refine nbC_t (fun _ => ?_) ?_) | (refine nbC_f ?_ (fun _ => ?_)))
            | refine And.intro (by first | omega | (simp only [Int.toNat_natCast] at *; omega) | (simp only [Nat.reduceAdd, Int.cast_ofNat_Int, true_and, and_true]; omega) | kernel_rfl) ?_
            | refine RegW.run ?_
            | fail
          refine ⟨Nat, fun v => [(12, i64 v), (11, i64 (allS W TW H TH x y (lvAt lv X Y iw) W v))], fun v => [], [2, 3, 4, 7, 113], fun v => [], fun v => v ≤ H ∧ (y : Int) * H / TH ≤ v, fun v => H - v, ⟨((y : Int) * H / TH).toNat, ⟨by omega, by omega⟩, ⟨[], ⟨by kernel_rfl, by kernel_rfl, by kernel_rfl, by kernel_rfl, by kernel_rfl, by kernel_rfl, by kernel_rfl⟩, (by repeat' first | exact trivial | exact rfl | kernel_rfl | exact Dle.of_eq rfl | exact MLe.of_eq rfl | exact Dle.i (by omega) | exact Dle.i (by simp only [Int.toNat_natCast] at *; omega) | exact Dle.nil | exact Dle.rc Dle.nil | exact Option.some_ne_none _ | exact Or.inl rfl | exact Or.inr trivial | omega | (simp only [Int.toNat_natCast] at *; omega) | (intro _ _ _ _; exact Dle.of_eq rfl) | refine And.intro ?_ ?_)⟩⟩, fun v hv => ?_⟩
          obtain ⟨hv, hv0⟩ := hv
          have b5 := prod_le (a := v) (b := TH) (A := 64) (B := 64) (by omega) (by omega)
          have b6 : ((v : Int) + 1) * (TH : Int) = (v : Int) * TH + TH := by rw [Int.add_mul, Int.one_mul]
          have s1 := allS_bound (W := W) (TW := TW) (H := H) (TH := TH) (x := x) (y := y) (lv := lvAt lv X Y iw) (w := W) (k := v) (by omega) (by omega) (by omega) (by omega) (by omega) (by omega) (fun v' u h1 h2 => hlb v' u (by omega) h2)
          by_cases hvc : v < H ∧ (v : Int) * TH < ((y : Int) + 1) * H
          · obtain ⟨hv1, hv2⟩ := hvc
            have hhigh := overlap_sp E ((v : Int) * TH) (((v : Int) + 1) * TH) ((y : Int) * H) (((y : Int) + 1) * H) (by omega)
            rw [ov_sym] at hhigh
            have e1 : rowS W TW H TH x y (lvAt lv X Y iw) v ((x : Int) * W / TW).toNat = 0 := rowS_none fun u hu => ov_early (by omega) (by omega)
            repeat' first
              | (refine facW_intro ?_; intro _)
              | refine Or.inl ?_
              | ((conv => whnf); first | (refine condW_dec ?_ ?_ <;> intro _ <;> try (exfalso; omega)) | refine condW_not ?_ | (refine condW_bool ?_ ?_ <;> intro _ <;> try (exfalso; omega)) | (refine nbC_t (fun _ => ?_) ?_) | (refine nbC_f ?_ (fun _ => ?_)))
              | refine And.intro (by first | omega | (simp only [Int.toNat_natCast] at *; omega) | (simp only [Nat.reduceAdd, Int.cast_ofNat_Int, true_and, and_true]; omega) | kernel_rfl) ?_
              | refine RegW.run ?_
              | refine ⟨_, hhigh, ?_⟩
              | fail
            refine ⟨Nat, fun u => [(14, i64 u), (11, i64 (allS W TW H TH x y (lvAt lv X Y iw) W v + rowS W TW H TH x y (lvAt lv X Y iw) v u))], fun u => [], [2, 3, 4, 7, 113], fun u => [], fun u => u ≤ W ∧ (x : Int) * W / TW ≤ u, fun u => W - u, ⟨((x : Int) * W / TW).toNat, ⟨by omega, by omega⟩, ⟨[], ⟨by kernel_rfl, by kernel_rfl, by kernel_rfl, by kernel_rfl, by kernel_rfl, by kernel_rfl, by kernel_rfl⟩, (by repeat' first | exact trivial | exact rfl | kernel_rfl | exact Dle.of_eq rfl | exact MLe.of_eq rfl | exact Dle.i (by omega) | exact Dle.i (by simp only [Int.toNat_natCast] at *; omega) | exact Dle.nil | exact Dle.rc Dle.nil | exact Option.some_ne_none _ | exact Or.inl rfl | exact Or.inr trivial | omega | (simp only [Int.toNat_natCast] at *; omega) | (intro _ _ _ _; exact Dle.of_eq rfl) | refine And.intro ?_ ?_)⟩⟩, fun u hu => ?_⟩
            obtain ⟨hu, hu0⟩ := hu
            have b7 := prod_le (a := u) (b := TW) (A := 64) (B := 64) (by omega) (by omega)
            have b8 : ((u : Int) + 1) * (TW : Int) = (u : Int) * TW + TW := by rw [Int.add_mul, Int.one_mul]
            have s2 := rowS_bound (W := W) (TW := TW) (H := H) (TH := TH) (x := x) (y := y) (lv := lvAt lv X Y iw) (v := v) (k := u) (by omega) (by omega) (by omega) (by omega) (by omega) (fun u' h2 => hlb v u' hv1 (by omega))
            by_cases huc : u < W ∧ (u : Int) * TW < ((x : Int) + 1) * W
            · obtain ⟨hu1, hu2⟩ := huc
              have hwide := overlap_sp E ((u : Int) * TW) (((u : Int) + 1) * TW) ((x : Int) * W) (((x : Int) + 1) * W) (by omega)
              rw [ov_sym] at hwide
              have p1 := lv_place (X := X) (Y := Y) (iw := iw) (ih := ih) (v := v) (u := u) (by omega) (by omega) hv1 hu1
              have e5 : ((ih * iw : Nat) : Int) = (iw : Int) * ih := by push_cast; rw [Int.mul_comm]
              have p2 := prod_le (a := iw) (b := ih) (A := 64) (B := 64) (by omega) (by omega)
              have p3 := ov_prod (H := H) (TH := TH) (W := W) (TW := TW) (y := y) (v := v) (x := x) (u := u) (by omega) (by omega) (by omega) (by omega)
              have p4 : 0 ≤ lv.getD ((((Y : Int) + (v : Int)) * (iw : Int) + (X : Int) + (u : Int)).toNat) 0 ∧ lv.getD ((((Y : Int) + (v : Int)) * (iw : Int) + (X : Int) + (u : Int)).toNat) 0 ≤ 15 := hlb v u hv1 hu1
              have p5 := lv_prod p3.2.2.2.2.1 p3.2.2.2.2.2 p4.1 p4.2
              have hrow : rowS W TW H TH x y (lvAt lv X Y iw) v (u + 1) = rowS W TW H TH x y (lvAt lv X Y iw) v u + ov H TH y v * ov W TW x u * lv.getD ((((Y : Int) + (v : Int)) * (iw : Int) + (X : Int) + (u : Int)).toNat) 0 := rowS_s _ _ _ _ _ _ _ _ _
              repeat' first
                | (refine facW_intro ?_; intro _)
                | refine Or.inl ?_
                | ((conv => whnf); first | (refine condW_dec ?_ ?_ <;> intro _ <;> try (exfalso; omega)) | refine condW_not ?_ | (refine condW_bool ?_ ?_ <;> intro _ <;> try (exfalso; omega)) | (refine nbC_t (fun _ => ?_) ?_) | (refine nbC_f ?_ (fun _ => ?_)))
                | refine And.intro (by first | omega | (simp only [Int.toNat_natCast] at *; omega) | (simp only [Nat.reduceAdd, Int.cast_ofNat_Int, true_and, and_true]; omega) | kernel_rfl) ?_
                | refine RegW.run ?_
                | refine ⟨_, hwide, ?_⟩
                | fail
              all_goals first
                | exact ⟨u + 1, ⟨by omega, by omega⟩, ⟨[], ⟨by kernel_rfl, by kernel_rfl, by kernel_rfl, by kernel_rfl, by kernel_rfl, by kernel_rfl, by kernel_rfl⟩, (by repeat' first | (exact Dle.i (by omega)) | exact trivial | exact rfl | kernel_rfl | exact Dle.of_eq rfl | exact MLe.of_eq rfl | exact Dle.i (by omega) | exact Dle.i (by simp only [Int.toNat_natCast] at *; omega) | exact Dle.nil | exact Dle.rc Dle.nil | exact Option.some_ne_none _ | exact Or.inl rfl | exact Or.inr trivial | omega | (simp only [Int.toNat_natCast] at *; omega) | (intro _ _ _ _; exact Dle.of_eq rfl) | refine And.intro ?_ ?_)⟩, by first | omega | (dsimp only; omega)⟩
                | trace_state
            · have e2 : rowS W TW H TH x y (lvAt lv X Y iw) v W = rowS W TW H TH x y (lvAt lv X Y iw) v u := by
                by_cases h : u < W
                · exact rowS_rest (by omega) fun u' g1 g2 => ov_late (j := u) (by omega) (by omega) g1
                · rw [show u = W by omega]
              have e3 : allS W TW H TH x y (lvAt lv X Y iw) W (v + 1) = allS W TW H TH x y (lvAt lv X Y iw) W v + rowS W TW H TH x y (lvAt lv X Y iw) v W := allS_s _ _ _ _ _ _ _ _ _
              repeat' first
                | (refine facW_intro ?_; intro _)
                | refine Or.inl ?_
                | ((conv => whnf); first | (refine condW_dec ?_ ?_ <;> intro _ <;> try (exfalso; omega)) | refine condW_not ?_ | (refine condW_bool ?_ ?_ <;> intro _ <;> try (exfalso; omega)) | (refine nbC_t (fun _ => ?_) ?_) | (refine nbC_f ?_ (fun _ => ?_)))
                | refine And.intro (by first | omega | (simp only [Int.toNat_natCast] at *; omega) | (simp only [Nat.reduceAdd, Int.cast_ofNat_Int, true_and, and_true]; omega) | kernel_rfl) ?_
                | refine RegW.run ?_
                | fail
              all_goals first
                | exact ⟨v + 1, ⟨by omega, by omega⟩, ⟨[], ⟨by kernel_rfl, by kernel_rfl, by kernel_rfl, by kernel_rfl, by kernel_rfl, by kernel_rfl, by kernel_rfl⟩, (by repeat' first | (exact Dle.i (by omega)) | exact trivial | exact rfl | kernel_rfl | exact Dle.of_eq rfl | exact MLe.of_eq rfl | exact Dle.i (by omega) | exact Dle.i (by simp only [Int.toNat_natCast] at *; omega) | exact Dle.nil | exact Dle.rc Dle.nil | exact Option.some_ne_none _ | exact Or.inl rfl | exact Or.inr trivial | omega | (simp only [Int.toNat_natCast] at *; omega) | (intro _ _ _ _; exact Dle.of_eq rfl) | refine And.intro ?_ ?_)⟩, by first | omega | (dsimp only; omega)⟩
                | trace_state
          · have e2 : allS W TW H TH x y (lvAt lv X Y iw) W H = allS W TW H TH x y (lvAt lv X Y iw) W v := by
              by_cases h : v < H
              · exact allS_rest (by omega) fun v' g1 g2 => ov_late (j := v) (by omega) (by omega) g1
              · rw [show v = H by omega]
            have e3 := outL_next (lv := lv) (X := X) (Y := Y) (iw := iw) (W := W) (H := H) (TW := TW) (TH := TH) (y := y) (x := x) hlx
            unfold val at e3
            rw [e2] at e3
            have q5 : 0 ≤ (2 * allS W TW H TH x y (lvAt lv X Y iw) W v + (W : Int) * H) / (2 * ((W : Int) * H)) ∧ (2 * allS W TW H TH x y (lvAt lv X Y iw) W v + (W : Int) * H) / (2 * ((W : Int) * H)) ≤ 2 * allS W TW H TH x y (lvAt lv X Y iw) W v + (W : Int) * H := ⟨Int.ediv_nonneg (by omega) (by omega), Int.ediv_le_self _ (by omega)⟩
            have e6 := hle (y * TW + x)
            have e4 : (outL lv X Y iw W H TW TH (y * TW + x)).length + 1 = (outL lv X Y iw W H TW TH (y * TW + (x + 1))).length := by rw [hle, hle]; rfl
            repeat' first
              | (refine facW_intro ?_; intro _)
              | refine Or.inl ?_
              | ((conv => whnf); first | (refine condW_dec ?_ ?_ <;> intro _ <;> try (exfalso; omega)) | refine condW_not ?_ | (refine condW_bool ?_ ?_ <;> intro _ <;> try (exfalso; omega)) | (refine nbC_t (fun _ => ?_) ?_) | (refine nbC_f ?_ (fun _ => ?_)))
              | refine And.intro (by first | omega | (simp only [Int.toNat_natCast] at *; omega) | (simp only [Nat.reduceAdd, Int.cast_ofNat_Int, true_and, and_true]; omega) | kernel_rfl) ?_
              | refine RegW.run ?_
              | fail
            all_goals first
              | exact ⟨x + 1, by omega, ⟨[(113, some 236)], ⟨by kernel_rfl, by kernel_rfl, by kernel_rfl, by kernel_rfl, by kernel_rfl, by kernel_rfl, by kernel_rfl⟩, (by repeat' first | (exact e4) | exact trivial | exact rfl | kernel_rfl | exact Dle.of_eq rfl | exact MLe.of_eq rfl | exact Dle.i (by omega) | exact Dle.i (by simp only [Int.toNat_natCast] at *; omega) | exact Dle.nil | exact Dle.rc Dle.nil | exact Option.some_ne_none _ | exact Or.inl rfl | exact Or.inr trivial | omega | (simp only [Int.toNat_natCast] at *; omega) | (intro _ _ _ _; exact Dle.of_eq rfl) | (intro i j hi hj; (rw [show y * TW + (x + 1) = y * TW + x + 1 from rfl, e3]; exact row_int E _ _ i j hi hj)) | refine And.intro ?_ ?_)⟩, by first | omega | (dsimp only; omega)⟩
              | trace_state
        · have e4 : y * TW + x = (y + 1) * TW := by rw [show x = TW by omega, Nat.succ_mul]
          repeat' first
            | (refine facW_intro ?_; intro _)
            | refine Or.inl ?_
            | ((conv => whnf); first | (refine condW_dec ?_ ?_ <;> intro _ <;> try (exfalso; omega)) | refine condW_not ?_ | (refine condW_bool ?_ ?_ <;> intro _ <;> try (exfalso; omega)) | (refine nbC_t (fun _ => ?_) ?_) | (refine nbC_f ?_ (fun _ => ?_)))
            | refine And.intro (by first | omega | (simp only [Int.toNat_natCast] at *; omega) | (simp only [Nat.reduceAdd, Int.cast_ofNat_Int, true_and, and_true]; omega) | kernel_rfl) ?_
            | refine RegW.run ?_
            | fail
          all_goals first
            | exact ⟨y + 1, by omega, ⟨[(108, some 113)], ⟨by kernel_rfl, by kernel_rfl, by kernel_rfl, by kernel_rfl, by kernel_rfl, by kernel_rfl, by kernel_rfl⟩, (by repeat' first | ((rw [e4])) | exact trivial | exact rfl | kernel_rfl | exact Dle.of_eq rfl | exact MLe.of_eq rfl | exact Dle.i (by omega) | exact Dle.i (by simp only [Int.toNat_natCast] at *; omega) | exact Dle.nil | exact Dle.rc Dle.nil | exact Option.some_ne_none _ | exact Or.inl rfl | exact Or.inr trivial | omega | (simp only [Int.toNat_natCast] at *; omega) | (intro _ _ _ _; exact Dle.of_eq rfl) | (intro i j hi hj; (rw [e4]; exact Dle.refl _ _)) | refine And.intro ?_ ?_)⟩, by first | omega | (dsimp only; omega)⟩
            | trace_state
      · have hy2 : y = TH := by omega
        subst hy2
        subst hr
        repeat' first
          | (refine facW_intro ?_; intro _)
          | refine Or.inl ?_
          | ((conv => whnf); first | (refine condW_dec ?_ ?_ <;> intro _ <;> try (exfalso; omega)) | refine condW_not ?_ | (refine condW_bool ?_ ?_ <;> intro _ <;> try (exfalso; omega)) | (refine nbC_t (fun _ => ?_) ?_) | (refine nbC_f ?_ (fun _ => ?_)))
          | refine And.intro (by first | omega | (simp only [Int.toNat_natCast] at *; omega) | (simp only [Nat.reduceAdd, Int.cast_ofNat_Int, true_and, and_true]; omega) | kernel_rfl) ?_
          | refine RegW.run ?_
          | fail
        all_goals first
          | exact Dle.refl _ _
          | trace_state
    · rw [if_neg hc] at hr
      refine Sp.body Try.func6 (by kernel_rfl) rfl (by kernel_rfl) (by kernel_rfl) (by kernel_rfl) ?_
      repeat' first
        | (refine facW_intro ?_; intro _)
        | refine Or.inl ?_
        | ((conv => whnf); first | (refine condW_dec ?_ ?_ <;> intro _ <;> try (exfalso; omega)) | refine condW_not ?_ | (refine condW_bool ?_ ?_ <;> intro _ <;> try (exfalso; omega)) | (refine nbC_t (fun _ => ?_) ?_) | (refine nbC_f ?_ (fun _ => ?_)))
        | refine And.intro (by first | omega | (simp only [Int.toNat_natCast] at *; omega) | (simp only [Nat.reduceAdd, Int.cast_ofNat_Int, true_and, and_true]; omega) | kernel_rfl) ?_
        | refine RegW.run ?_
        | refine ⟨_, h1, ?_⟩
        | fail
      all_goals first
        | (exfalso; rename_i h; exact h rfl)
        | exact hend _ _ hr
        | (exfalso; exact hc (by unfold cutOk; omega))
        | trace_state
  · rw [if_neg h0] at hr
    generalize imgF w h lv = c at h1 hr h0
    refine Sp.body Try.func6 (by kernel_rfl) rfl (by kernel_rfl) (by kernel_rfl) (by kernel_rfl) ?_
    repeat' first
      | (refine facW_intro ?_; intro _)
      | refine Or.inl ?_
      | ((conv => whnf); first | (refine condW_dec ?_ ?_ <;> intro _ <;> try (exfalso; omega)) | refine condW_not ?_ | (refine condW_bool ?_ ?_ <;> intro _ <;> try (exfalso; omega)) | (refine nbC_t (fun _ => ?_) ?_) | (refine nbC_f ?_ (fun _ => ?_)))
      | refine And.intro (by first | omega | (simp only [Int.toNat_natCast] at *; omega) | (simp only [Nat.reduceAdd, Int.cast_ofNat_Int, true_and, and_true]; omega) | kernel_rfl) ?_
      | refine RegW.run ?_
      | refine ⟨_, h1, ?_⟩
      | fail
    all_goals first
      | exact hend _ _ hr
      | (exfalso; exact h0 (by assumption))
      | trace_state
end
end img
end Go.Proofs.Ytagggnjcpjodjaa
