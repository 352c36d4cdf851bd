/-
  Fingerprints: the reference's. The law AssetNames, walked.
-/
import Derived.Test.YteojgenhgjhohaaDoorDi0
namespace Go.Proofs.YteojgenhgjhohaaDoor.dg
open Go.RowKit Go.Proofs.YteojgenhgjhohaaDoor.fb pn na pl
set_option linter.unusedVariables false
set_option linter.unusedSimpArgs false
theorem ofL {x y : ByteArray} (h : x.data.toList = y.data.toList) : x = y := by
  apply ByteArray.ext
  exact Array.toList_inj.1 h
theorem exL (x : ByteArray) (a b : Nat) : (x.extract a b).data.toList = (x.data.toList.drop a).take (b - a) := by
  simp [ByteArray.data_extract, Array.toList_extract, List.extract_eq_take_drop]
theorem cut_a (p : ByteArray) (c k : Nat) (h : c + k ≤ p.size) : p.extract 0 (c + k) = p.extract 0 c ++ (p.extract c p.size).extract 0 k := by
  apply ofL
  have hl : p.data.toList.length = p.size := by simp
  simp only [ByteArray.data_append, Array.toList_append, exL, List.drop_zero, Nat.sub_zero]
  rw [List.take_add, List.take_take, Nat.min_eq_left (by omega)]
theorem cut_b (p : ByteArray) (c k : Nat) (h : c + k ≤ p.size) : p.extract (c + k) p.size = (p.extract c p.size).extract k (p.size - c) := by
  apply ofL
  have hl : p.data.toList.length = p.size := by simp
  simp only [exL]
  rw [List.take_of_length_le (l := p.data.toList.drop c) (by rw [List.length_drop]; omega), List.drop_drop, List.take_of_length_le (by rw [List.length_drop]; omega), List.take_of_length_le (by rw [List.length_drop]; omega)]
theorem cut_fp (p D : ByteArray) (k : Int) (h0 : 0 ≤ k) (h1 : k ≤ (lstV p).size) :
    fpS (dirV p) (lstV p) D k = p.extract (Int.toNat 0) (k + ((p.size : Int) - ((lstV p).size : Int))).toNat ++ ⟨#[46]⟩ ++ D.extract (Int.toNat 0) (Int.toNat 12) ++ p.extract (k + ((p.size : Int) - ((lstV p).size : Int))).toNat ((p.size : Int)).toNat := by
  have hc := cutK_le p
  have hz : (lstV p).size = p.size - cutK p := by unfold lstV; rw [ByteArray.size_extract]; omega
  obtain ⟨k, rfl⟩ : ∃ n : Nat, k = n := ⟨k.toNat, by omega⟩
  have e : ((k : Int) + ((p.size : Int) - ((lstV p).size : Int))).toNat = cutK p + k := by omega
  rw [e]
  unfold fpS
  rw [Int.toNat_natCast, Int.toNat_natCast, Int.toNat_natCast, hz, show Int.toNat 0 = 0 from rfl, cut_a p (cutK p) k (by omega), cut_b p (cutK p) k (by omega)]
  rfl
section
variable (E : Env)
set_option maxRecDepth 100000
set_option maxHeartbeats 8000000 in
theorem fpOf_sp (hML : ∀ w, E.G w → ML w) (hT : ∀ w, E.G w → TB w) (p b : ByteArray) (hp : p.size ≤ 1000000000) (hb : b.size ≤ 200000) : Sp (cx Tryd.prog mixed tyT_ok E) 5 [dS p, dS b] (.tup [dS (fpV p (dgV b)).1, i64 (fpV p (dgV b)).2]) := by
  have h1 := r_isPath_sp E hML p
  have h2 := lstPart_sp E p (by show _ ≤ 9223372036854775807; omega)
  have h4 := digestOf_sp E hT b (by omega)
  have hD := dgV_size b
  rw [show bs (hxs (d3 b 16) 4) = dgV b from rfl] at h4
  generalize dgV b = D at *
  have hz : (lstV p).size ≤ p.size := by unfold lstV; rw [ByteArray.size_extract]; omega
  unfold fpV
  by_cases c1 : pathB p = true
  · rw [c1, if_pos rfl]
    rw [c1] at h1
    have h3 := lastIdx_sp E (lstV p) 46 (by show _ ≤ 9223372036854775807; omega)
    have hr := lastB_lt (lstV p) 46 (lstV p).size
    have hk : 0 ≤ fpK (lstV p) ∧ fpK (lstV p) ≤ (lstV p).size := by unfold fpK; split <;> omega
    rw [cut_fp p D _ hk.1 hk.2]
    have h5 := r_isPath_sp E hML (p.extract (Int.toNat 0) (fpK (lstV p) + ((p.size : Int) - ((lstV p).size : Int))).toNat ++ ⟨#[46]⟩ ++ D.extract (Int.toNat 0) (Int.toNat 12) ++ p.extract (fpK (lstV p) + ((p.size : Int) - ((lstV p).size : Int))).toNat ((p.size : Int)).toNat)
    obtain ⟨bb, hbb⟩ : ∃ bb, bb = pathB (p.extract (Int.toNat 0) (fpK (lstV p) + ((p.size : Int) - ((lstV p).size : Int))).toNat ++ ⟨#[46]⟩ ++ D.extract (Int.toNat 0) (Int.toNat 12) ++ p.extract (fpK (lstV p) + ((p.size : Int) - ((lstV p).size : Int))).toNat ((p.size : Int)).toNat) := ⟨_, rfl⟩
    rw [← hbb] at h5 ⊢
    clear hbb
    unfold fpK at h5 ⊢
    clear hk
    generalize lastB (lstV p) 46 (lstV p).size = r at *
    generalize lstV p = t at *
    have hq1 : (⟨#[46]⟩ : ByteArray).size = 1 := rfl
    have z0 : ∀ a b, (p.extract a b).size ≤ p.size := fun a b => by rw [ByteArray.size_extract]; omega
    have zD : (D.extract (Int.toNat 0) (Int.toNat 12)).size ≤ 32 := by rw [ByteArray.size_extract]; omega
    have z1 : ∀ a b, (p.extract a b ++ (⟨#[46]⟩ : ByteArray)).size ≤ p.size + 1 := fun a b => by rw [ByteArray.size_append]; have := z0 a b; omega
    have z3 : ∀ a b, (p.extract a b ++ (⟨#[46]⟩ : ByteArray) ++ D.extract (Int.toNat 0) (Int.toNat 12)).size ≤ p.size + 33 := fun a b => by rw [ByteArray.size_append]; have := z1 a b; omega
    by_cases c2 : r < 1
    · rw [if_pos c2] at h5 ⊢
      have y1 := z0 (Int.toNat 0) ((t.size : Int) + ((p.size : Int) - (t.size : Int))).toNat
      have y2 := z0 ((t.size : Int) + ((p.size : Int) - (t.size : Int))).toNat ((p.size : Int)).toNat
      have y3 := z1 (Int.toNat 0) ((t.size : Int) + ((p.size : Int) - (t.size : Int))).toNat
      have y5 := z3 (Int.toNat 0) ((t.size : Int) + ((p.size : Int) - (t.size : Int))).toNat
      clear z0 z1 z3
      cases bb
      · refine Sp.body Tryd.func5 (by kernel_rfl) rfl (by kernel_rfl) (by kernel_rfl) (by kernel_rfl) ?_
        repeat' first
          | (refine codeW_cond rfl ?_; first | (refine condW_dec ?_ ?_ <;> intro _ <;> try (exfalso; omega)) | refine condW_not ?_ | (refine condW_bool ?_ ?_ <;> intro _ <;> try (exfalso; omega)))
          | (refine facW_intro ?_; intro _)
          | refine Or.inl ?_
          | ((conv => whnf); first | (refine condW_dec ?_ ?_ <;> intro _ <;> try (exfalso; omega)) | refine condW_not ?_ | (refine condW_bool ?_ ?_ <;> intro _ <;> try (exfalso; omega)) | (refine nbC_t (fun _ => ?_) ?_) | (refine nbC_f ?_ (fun _ => ?_)))
          | refine And.intro (by first | omega | (simp only [Int.toNat_natCast] at *; omega) | (simp only [Nat.reduceAdd, Int.cast_ofNat_Int, true_and, and_true]; omega)  | kernel_rfl) ?_
          | refine RegW.run ?_
          | refine ⟨_, h1, ?_⟩
          | refine ⟨_, h2, ?_⟩
          | refine ⟨_, h3, ?_⟩
          | refine ⟨_, h4, ?_⟩
          | refine ⟨_, h5, ?_⟩
          | fail
        all_goals first
          | (exfalso; omega)
          | exact Dle.refl _ _
          | trace_state
      · refine Sp.body Tryd.func5 (by kernel_rfl) rfl (by kernel_rfl) (by kernel_rfl) (by kernel_rfl) ?_
        repeat' first
          | (refine codeW_cond rfl ?_; first | (refine condW_dec ?_ ?_ <;> intro _ <;> try (exfalso; omega)) | refine condW_not ?_ | (refine condW_bool ?_ ?_ <;> intro _ <;> try (exfalso; omega)))
          | (refine facW_intro ?_; intro _)
          | refine Or.inl ?_
          | ((conv => whnf); first | (refine condW_dec ?_ ?_ <;> intro _ <;> try (exfalso; omega)) | refine condW_not ?_ | (refine condW_bool ?_ ?_ <;> intro _ <;> try (exfalso; omega)) | (refine nbC_t (fun _ => ?_) ?_) | (refine nbC_f ?_ (fun _ => ?_)))
          | refine And.intro (by first | omega | (simp only [Int.toNat_natCast] at *; omega) | (simp only [Nat.reduceAdd, Int.cast_ofNat_Int, true_and, and_true]; omega)  | kernel_rfl) ?_
          | refine RegW.run ?_
          | refine ⟨_, h1, ?_⟩
          | refine ⟨_, h2, ?_⟩
          | refine ⟨_, h3, ?_⟩
          | refine ⟨_, h4, ?_⟩
          | refine ⟨_, h5, ?_⟩
          | fail
        all_goals first
          | (exfalso; omega)
          | exact Dle.refl _ _
          | trace_state
    · rw [if_neg c2] at h5 ⊢
      have y1 := z0 (Int.toNat 0) (r + ((p.size : Int) - (t.size : Int))).toNat
      have y2 := z0 (r + ((p.size : Int) - (t.size : Int))).toNat ((p.size : Int)).toNat
      have y3 := z1 (Int.toNat 0) (r + ((p.size : Int) - (t.size : Int))).toNat
      have y5 := z3 (Int.toNat 0) (r + ((p.size : Int) - (t.size : Int))).toNat
      clear z0 z1 z3
      cases bb
      · refine Sp.body Tryd.func5 (by kernel_rfl) rfl (by kernel_rfl) (by kernel_rfl) (by kernel_rfl) ?_
        repeat' first
          | (refine codeW_cond rfl ?_; first | (refine condW_dec ?_ ?_ <;> intro _ <;> try (exfalso; omega)) | refine condW_not ?_ | (refine condW_bool ?_ ?_ <;> intro _ <;> try (exfalso; omega)))
          | (refine facW_intro ?_; intro _)
          | refine Or.inl ?_
          | ((conv => whnf); first | (refine condW_dec ?_ ?_ <;> intro _ <;> try (exfalso; omega)) | refine condW_not ?_ | (refine condW_bool ?_ ?_ <;> intro _ <;> try (exfalso; omega)) | (refine nbC_t (fun _ => ?_) ?_) | (refine nbC_f ?_ (fun _ => ?_)))
          | refine And.intro (by first | omega | (simp only [Int.toNat_natCast] at *; omega) | (simp only [Nat.reduceAdd, Int.cast_ofNat_Int, true_and, and_true]; omega)  | kernel_rfl) ?_
          | refine RegW.run ?_
          | refine ⟨_, h1, ?_⟩
          | refine ⟨_, h2, ?_⟩
          | refine ⟨_, h3, ?_⟩
          | refine ⟨_, h4, ?_⟩
          | refine ⟨_, h5, ?_⟩
          | fail
        all_goals first
          | (exfalso; omega)
          | exact Dle.refl _ _
          | trace_state
      · refine Sp.body Tryd.func5 (by kernel_rfl) rfl (by kernel_rfl) (by kernel_rfl) (by kernel_rfl) ?_
        repeat' first
          | (refine codeW_cond rfl ?_; first | (refine condW_dec ?_ ?_ <;> intro _ <;> try (exfalso; omega)) | refine condW_not ?_ | (refine condW_bool ?_ ?_ <;> intro _ <;> try (exfalso; omega)))
          | (refine facW_intro ?_; intro _)
          | refine Or.inl ?_
          | ((conv => whnf); first | (refine condW_dec ?_ ?_ <;> intro _ <;> try (exfalso; omega)) | refine condW_not ?_ | (refine condW_bool ?_ ?_ <;> intro _ <;> try (exfalso; omega)) | (refine nbC_t (fun _ => ?_) ?_) | (refine nbC_f ?_ (fun _ => ?_)))
          | refine And.intro (by first | omega | (simp only [Int.toNat_natCast] at *; omega) | (simp only [Nat.reduceAdd, Int.cast_ofNat_Int, true_and, and_true]; omega)  | kernel_rfl) ?_
          | refine RegW.run ?_
          | refine ⟨_, h1, ?_⟩
          | refine ⟨_, h2, ?_⟩
          | refine ⟨_, h3, ?_⟩
          | refine ⟨_, h4, ?_⟩
          | refine ⟨_, h5, ?_⟩
          | fail
        all_goals first
          | (exfalso; omega)
          | exact Dle.refl _ _
          | trace_state
  · rw [if_neg c1]
    rw [show pathB p = false by simpa using c1] at h1
    refine Sp.body Tryd.func5 (by kernel_rfl) rfl (by kernel_rfl) (by kernel_rfl) (by kernel_rfl) ?_
    repeat' first
      | (refine codeW_cond rfl ?_; first | (refine condW_dec ?_ ?_ <;> intro _ <;> try (exfalso; omega)) | refine condW_not ?_ | (refine condW_bool ?_ ?_ <;> intro _ <;> try (exfalso; omega)))
      | (refine facW_intro ?_; intro _)
      | refine Or.inl ?_
      | ((conv => whnf); first | (refine condW_dec ?_ ?_ <;> intro _ <;> try (exfalso; omega)) | refine condW_not ?_ | (refine condW_bool ?_ ?_ <;> intro _ <;> try (exfalso; omega)) | (refine nbC_t (fun _ => ?_) ?_) | (refine nbC_f ?_ (fun _ => ?_)))
      | refine And.intro (by first | omega | (simp only [Int.toNat_natCast] at *; omega) | (simp only [Nat.reduceAdd, Int.cast_ofNat_Int, true_and, and_true]; omega)  | kernel_rfl) ?_
      | refine RegW.run ?_
      | refine ⟨_, h1, ?_⟩
      | fail
    all_goals first
      | (exfalso; omega)
      | exact Dle.refl _ _
      | trace_state
end
end Go.Proofs.YteojgenhgjhohaaDoor.dg
namespace Go.Proofs.YteojgenhgjhohaaDoor.dg
open Go.RowKit Go.Proofs.YteojgenhgjhohaaDoor.fb pn na pl
set_option linter.unusedVariables false
set_option linter.unusedSimpArgs false
theorem TB.lt {w : World} (h : TB w) : 5 + 1 ≤ w.heap.size := World.block_lt_of_cell? _ _ h
theorem TB.kp {B : Nat} {w w' : World} (h : TB w) (hB : 5 < B) (hk : Kp B noS w w') : TB w' := by
  have e : w'.cell? ⟨5, 15, none⟩ = w.cell? ⟨5, 15, none⟩ := by
    unfold World.cell?
    rw [hk.block _ hB (fun h => h)]
  exact e.trans h
theorem tb_of_tab {w : World} (h : Lib.TabIs Tryd.prog w "math/bits.deBruijn64tab" .u8 [0, 1, 56, 2, 57, 49, 28, 3, 61, 58, 42, 50, 38, 29, 17, 4, 62, 47, 59, 36, 45, 43, 51, 22, 53, 39, 33, 30, 24, 18, 12, 5, 63, 55, 48, 27, 60, 41, 37, 16, 46, 35, 44, 21, 52, 32, 23, 11, 54, 26, 40, 15, 34, 20, 31, 10, 25, 14, 19, 9, 13, 8, 7, 6]) : TB w :=
  Lib.TabIs.cell h (g := 5) (by kernel_rfl) 15 (by decide)
theorem plD_form (d : ByteArray) (R : Option (List UInt8 × List UInt8)) : ∃ x y c, plD d R = .tup [dS x, dS y, dB c] := by
  cases R with
  | none => exact ⟨_, _, _, rfl⟩
  | some r => exact ⟨_, _, _, rfl⟩
section
variable (E : Env)
set_option maxRecDepth 100000
set_option maxHeartbeats 8000000 in
theorem assetNames_sp (hML : ∀ w, E.G w → ML w) (hT : ∀ w, E.G w → TB w) (p b : ByteArray) (hp : p.size ≤ 1000000000) : Sp (cx Tryd.prog mixed tyT_ok E) 3 [dS p, dS b] (dB true) := by
  by_cases hb : b.size ≤ 200000
  · have h1 := fp_sp E hML p b hp hb
    have h2 := fpOf_sp E hML hT p b hp hb
    have h3 := plain_sp E p (by omega)
    have h4 := plainOf_sp E hML p hp
    rw [same] at h3
    obtain ⟨x, y, c, hR⟩ := plD_form (dirV p) (refP (lstV p).data.toList)
    rw [hR] at h3 h4
    have h5 := digest_sp E b (by omega)
    have h6 := digestOf_sp E hT b (by omega)
    have h7 := kindOf_sp E p (by show _ ≤ 9223372036854775807; omega)
    have h8 := kindOfR_sp E p (by show _ ≤ 9223372036854775807; omega)
    generalize kindN p = kn at h7 h8
    generalize bs (hxs (d3 b 16) 4) = D at h5 h6
    generalize (fpV p (dgV b)).1 = f1 at h1 h2
    generalize (fpV p (dgV b)).2 = f2 at h1 h2
    clear hR
    refine Sp.body Tryd.func3 (by kernel_rfl) rfl (by kernel_rfl) (by kernel_rfl) (by kernel_rfl) ?_
    repeat' first
      | (refine codeW_cond rfl ?_; first | (refine condW_dec ?_ ?_ <;> intro _ <;> try (exfalso; omega)) | refine condW_not ?_ | (refine condW_bool ?_ ?_ <;> intro _ <;> try (exfalso; omega)))
      | (refine facW_intro ?_; intro _)
      | refine Or.inl ?_
      | ((conv => whnf); first | (refine condW_dec ?_ ?_ <;> intro _ <;> try (exfalso; omega)) | refine condW_not ?_ | (refine condW_bool ?_ ?_ <;> intro _ <;> try (exfalso; omega)) | (refine nbC_t (fun _ => ?_) ?_) | (refine nbC_f ?_ (fun _ => ?_)))
      | refine And.intro (by first | omega | (simp only [Int.toNat_natCast] at *; omega) | (simp only [Nat.reduceAdd, Int.cast_ofNat_Int, true_and, and_true]; omega)  | kernel_rfl) ?_
      | refine RegW.run ?_
      | refine ⟨_, h1, ?_⟩
      | refine ⟨_, h2, ?_⟩
      | refine ⟨_, h3, ?_⟩
      | refine ⟨_, h4, ?_⟩
      | refine ⟨_, h5, ?_⟩
      | refine ⟨_, h6, ?_⟩
      | refine ⟨_, h7, ?_⟩
      | refine ⟨_, h8, ?_⟩
      | fail
    all_goals first
      | (exfalso; omega)
      | (exfalso; simp_all; done)
      | exact Dle.bo (by simp)
      | exact Dle.refl _ _
      | trace_state
  · refine Sp.body Tryd.func3 (by kernel_rfl) rfl (by kernel_rfl) (by kernel_rfl) (by kernel_rfl) ?_
    repeat' first
      | (refine codeW_cond rfl ?_; first | (refine condW_dec ?_ ?_ <;> intro _ <;> try (exfalso; omega)) | refine condW_not ?_ | (refine condW_bool ?_ ?_ <;> intro _ <;> try (exfalso; omega)))
      | (refine facW_intro ?_; intro _)
      | refine Or.inl ?_
      | ((conv => whnf); first | (refine condW_dec ?_ ?_ <;> intro _ <;> try (exfalso; omega)) | refine condW_not ?_ | (refine condW_bool ?_ ?_ <;> intro _ <;> try (exfalso; omega)) | (refine nbC_t (fun _ => ?_) ?_) | (refine nbC_f ?_ (fun _ => ?_)))
      | refine And.intro (by first | omega | (simp only [Int.toNat_natCast] at *; omega) | (simp only [Nat.reduceAdd, Int.cast_ofNat_Int, true_and, and_true]; omega)  | kernel_rfl) ?_
      | refine RegW.run ?_
      | fail
    all_goals first
      | (exfalso; omega)
      | exact Dle.refl _ _
      | trace_state
end
end Go.Proofs.YteojgenhgjhohaaDoor.dg
