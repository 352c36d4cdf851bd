/-
  mastref2.PlainOf as data. Fingerprints: the program's, the reference's, over data.
-/
import Derived.Test.YteojgenhgjhohaaDoorNa4
import Derived.Test.YteojgenhgjhohaaDoorDh3
namespace Go.Proofs.YteojgenhgjhohaaDoor
open Go.RowKit
set_option linter.unusedVariables false
set_option linter.unusedSimpArgs false
namespace na
open pl bl
theorem getD_toB (l : List (List UInt8)) (i : Nat) : (l.map toB).getD i ⟨#[]⟩ = toB (l.getD i []) := by
  rw [List.getD_eq_getElem?_getD, List.getD_eq_getElem?_getD, List.getElem?_map]
  cases l[i]? <;> rfl
theorem toB_list (x : List UInt8) : (toB x).data.toList = x := by simp [toB]
theorem szL_take (l : List ByteArray) (k : Nat) : szL (l.take k) ≤ szL l := by
  have h := List.take_append_drop k l
  have h2 : szL l = szL (l.take k) + szL (l.drop k) := by
    unfold szL
    conv => lhs; rw [← h, List.map_append, List.sum_append]
  omega
theorem mem_sum {x : Nat} : ∀ l : List Nat, x ∈ l → x ≤ l.sum
  | [], h => by cases h
  | y :: r, h => by
    rw [List.sum_cons]
    rcases List.mem_cons.1 h with rfl | h
    · omega
    · have := mem_sum r h; omega
theorem szL_le_mem (l : List ByteArray) (i : Nat) : (l.getD i ⟨#[]⟩).size ≤ szL l := by
  by_cases h : i < l.length
  · have e : l.getD i ⟨#[]⟩ = l[i] := by rw [List.getD_eq_getElem?_getD, List.getElem?_eq_getElem h]; rfl
    rw [e]
    unfold szL
    exact mem_sum _ (List.mem_map.2 ⟨_, List.getElem_mem h, rfl⟩)
  · have e : l.getD i ⟨#[]⟩ = ⟨#[]⟩ := by rw [List.getD_eq_getElem?_getD, List.getElem?_eq_none (by omega)]; rfl
    rw [e]
    exact Nat.zero_le _
section
variable (E : Env)
theorem plainOf_sp (hML : ∀ w, E.G w → ML w) (s : ByteArray) (hs : s.size ≤ 1000000000) : Sp (cx Tryd.prog mixed tyT_ok E) 7 [dS s] (plD (dirV s) (refP (lstV s).data.toList)) := by
  have hc := cutK_le s
  have hz : (lstV s).size = s.size - cutK s := by unfold lstV; rw [ByteArray.size_extract]; omega
  have hdz : (dirV s).size ≤ s.size := by unfold dirV; rw [ByteArray.size_extract]; omega
  have hd : dirV s = s.extract 0 ((s.size : Int) - ((lstV s).size : Int)).toNat := by
    rw [hz, show ((s.size : Int) - ((s.size - cutK s : Nat) : Int)).toNat = cutK s by omega]
    rfl
  have h1 := lstPart_sp E s (by show _ ≤ 9223372036854775807; omega)
  generalize lstV s = t at *
  generalize dirV s = d at *
  have hL := L_len t
  have h2 := split_sp E hML t (⟨#[46]⟩ : ByteArray) (by omega) (by decide)
  have hp : pcs t (⟨#[46]⟩ : ByteArray) = (lns 46 t.data.toList).map toB := pcs_lns 46 _ t (Nat.lt_succ_self _)
  rw [hp] at h2
  obtain ⟨q1, q2⟩ := szL_lns _ t.data.toList (Nat.lt_succ_self _)
  have q3 : 1 ≤ (lns 46 t.data.toList).length := List.length_pos_iff.2 (lns_ne _ _)
  generalize t.data.toList = L at *
  unfold refP
  generalize lns 46 L = P at *
  have q4 := szL_take (P.map toB)
  have q5 := szL_le_mem (P.map toB)
  have hj : ∀ Q : List (List UInt8), Q.length ≤ 1000000000 → szL (Q.map toB) ≤ 1000000000000 → Sp (cx Tryd.prog mixed tyT_ok E) 19 [encStrs (Q.map toB), refD d] (dS (d ++ toB (jnP Q))) := fun Q g1 g2 => by
    have h := join_sp E (Q.map toB) d (by rw [List.length_map]; exact g1) g2 (by omega)
    rw [jn_P] at h
    exact h
  have hm : ∀ k, (P.map toB).take k = (P.take k).map toB := fun k => by rw [List.map_take]
  have hx : ∀ k, Sp (cx Tryd.prog mixed tyT_ok E) 21 [dS ((P.map toB).getD k ⟨#[]⟩)] (dB (hexL (P.getD k []))) := fun k => by
    have h := hexDigits_sp E (toB (P.getD k []))
    rw [toB_list] at h
    rw [getD_toB]
    exact h
  have hl3 : szL (((P.take (P.length - 2)) ++ [P.getD (P.length - 1) []]).map toB) ≤ 1000000000000 := by
    rw [List.map_append]
    unfold szL
    rw [List.map_append, List.sum_append]
    have g1 := q4 (P.length - 2)
    have g2 := q5 (P.length - 1)
    rw [getD_toB] at g2
    rw [hm] at g1
    unfold szL at g1 g2 q1
    simp only [List.map_cons, List.map_nil, List.sum_cons, List.sum_nil]
    omega
  refine plainOf_w E s t d (P.map toB) P.length hs h1 (by omega) hd h2 (by rw [List.length_map]) q3 (by omega) _ _ (d ++ toB (jnP (P.take (P.length - 2)))) (d ++ toB (jnP (P.take (P.length - 1)))) (d ++ toB (jnP (P.take (P.length - 2) ++ [P.getD (P.length - 1) []]))) (hx _) (hx _) ?_ ?_ ?_ _ ?_
  · rw [hm]
    exact hj _ (by rw [List.length_take]; omega) (by rw [← hm]; have := q4 (P.length - 2); omega)
  · rw [hm]
    exact hj _ (by rw [List.length_take]; omega) (by rw [← hm]; have := q4 (P.length - 1); omega)
  · have h := hj _ (by rw [List.length_append, List.length_take, List.length_singleton]; omega) hl3
    rw [List.map_append, List.map_singleton] at h
    rw [hm, getD_toB]
    exact h
  · rw [getD_toB, getD_toB]
    simp only [ne_eq, toB_nil]
    split
    · rfl
    · split <;> rfl
end
end na
end Go.Proofs.YteojgenhgjhohaaDoor
namespace Go.Proofs.YteojgenhgjhohaaDoor.dg
open Go.RowKit Go.Proofs.YteojgenhgjhohaaDoor.fb pn na pl
set_option linter.unusedVariables false
set_option linter.unusedSimpArgs false
def fpK (t : ByteArray) : Int := if lastB t 46 t.size < 1 then (t.size : Int) else lastB t 46 t.size
def fpS (d t D : ByteArray) (k : Int) : ByteArray := d ++ t.extract (Int.toNat 0) k.toNat ++ ⟨#[46]⟩ ++ D.extract (Int.toNat 0) (Int.toNat 12) ++ t.extract k.toNat ((t.size : Int)).toNat
def fpV (p D : ByteArray) : ByteArray × Int :=
  if pathB p then (if pathB (fpS (dirV p) (lstV p) D (fpK (lstV p))) then (fpS (dirV p) (lstV p) D (fpK (lstV p)), 0) else (⟨#[]⟩, 3)) else (⟨#[]⟩, 3)
def dgV (b : ByteArray) : ByteArray := bs (hxs (d3 b 16) 4)
theorem dgV_size (b : ByteArray) : (dgV b).size = 32 := (bs_size _).trans (hxs_len _ 4)
section
variable (E : Env)
set_option maxRecDepth 100000
set_option maxHeartbeats 8000000 in
theorem fp_sp (hML : ∀ w, E.G w → ML w) (p b : ByteArray) (hp : p.size ≤ 1000000000) (hb : b.size ≤ 200000) : Sp (cx Tryd.prog mixed tyT_ok E) 4 [dS p, dS b] (.tup [dS (fpV p (dgV b)).1, i64 (fpV p (dgV b)).2]) := by
  have h1 := a_isPath_sp E hML p
  have h2 := cutLast_sp E p (by show _ ≤ 9223372036854775807; omega)
  have h4 := digest_sp E b (by omega)
  have hD := dgV_size b
  rw [show bs (hxs (d3 b 16) 4) = dgV b from rfl] at h4
  generalize dgV b = D at *
  have hz : (lstV p).size ≤ p.size := by unfold lstV; rw [ByteArray.size_extract]; omega
  have hd : (dirV p).size ≤ p.size := by unfold dirV; rw [ByteArray.size_extract]; omega
  unfold fpV
  by_cases c1 : pathB p = true
  · rw [c1, if_pos rfl]
    rw [c1] at h1
    generalize lstV p = t at h2 hz ⊢
    generalize dirV p = d at h2 hd ⊢
    have h3 := lastIdx_sp E t 46 (by show _ ≤ 9223372036854775807; omega)
    have hr := lastB_lt t 46 t.size
    have h5 := a_isPath_sp E hML (fpS d t D (fpK t))
    obtain ⟨bb, hbb⟩ : ∃ bb, bb = pathB (fpS d t D (fpK t)) := ⟨_, rfl⟩
    rw [← hbb] at h5 ⊢
    clear hbb
    have hS : fpS d t D (fpK t) = fpS d t D (fpK t) := rfl
    unfold fpK at h5 ⊢
    generalize lastB t 46 t.size = r at *
    have hq1 : (⟨#[46]⟩ : ByteArray).size = 1 := rfl
    have z0 : ∀ a b, (t.extract a b).size ≤ t.size := fun a b => by rw [ByteArray.size_extract]; omega
    have zD : (D.extract (Int.toNat 0) (Int.toNat 12)).size ≤ 32 := by rw [ByteArray.size_extract]; omega
    have z1 : ∀ a b, (d ++ t.extract a b).size ≤ d.size + t.size := fun a b => by rw [ByteArray.size_append]; have := z0 a b; omega
    have z2 : ∀ a b, (d ++ t.extract a b ++ (⟨#[46]⟩ : ByteArray)).size ≤ d.size + t.size + 1 := fun a b => by rw [ByteArray.size_append]; have := z1 a b; have : (⟨#[46]⟩ : ByteArray).size = 1 := rfl; omega
    have z3 : ∀ a b, (d ++ t.extract a b ++ (⟨#[46]⟩ : ByteArray) ++ D.extract (Int.toNat 0) (Int.toNat 12)).size ≤ d.size + t.size + 33 := fun a b => by rw [ByteArray.size_append]; have := z2 a b; omega
    by_cases c2 : r < 1
    · rw [if_pos c2] at h5 ⊢
      unfold fpS at h5 ⊢
      have y1 := z0 (Int.toNat 0) ((t.size : Int)).toNat
      have y2 := z0 ((t.size : Int)).toNat ((t.size : Int)).toNat
      have y3 := z1 (Int.toNat 0) ((t.size : Int)).toNat
      have y4 := z2 (Int.toNat 0) ((t.size : Int)).toNat
      have y5 := z3 (Int.toNat 0) ((t.size : Int)).toNat
      clear z0 z1 z2 z3
      cases bb
      · refine Sp.body Tryd.func4 (by kernel_rfl) rfl (by kernel_rfl) (by kernel_rfl) (by kernel_rfl) ?_
        repeat' first
          | (refine codeW_cond rfl ?_; first | (refine condW_dec ?_ ?_ <;> intro _ <;> try (exfalso; omega)) | refine condW_not ?_ | (refine condW_bool ?_ ?_ <;> intro _ <;> try (exfalso; omega)))
          | (refine facW_intro ?_; intro _)
          | refine Or.inl ?_
          | ((conv => whnf); first | (refine condW_dec ?_ ?_ <;> intro _ <;> try (exfalso; omega)) | refine condW_not ?_ | (refine condW_bool ?_ ?_ <;> intro _ <;> try (exfalso; omega)) | (refine nbC_t (fun _ => ?_) ?_) | (refine nbC_f ?_ (fun _ => ?_)))
          | refine And.intro (by first | omega | (simp only [Int.toNat_natCast] at *; omega) | (simp only [Nat.reduceAdd, Int.cast_ofNat_Int, true_and, and_true]; omega)  | kernel_rfl) ?_
          | refine RegW.run ?_
          | refine ⟨_, h1, ?_⟩
          | refine ⟨_, h2, ?_⟩
          | refine ⟨_, h3, ?_⟩
          | refine ⟨_, h4, ?_⟩
          | refine ⟨_, h5, ?_⟩
          | fail
        all_goals first
          | (exfalso; omega)
          | exact Dle.refl _ _
          | trace_state
      · refine Sp.body Tryd.func4 (by kernel_rfl) rfl (by kernel_rfl) (by kernel_rfl) (by kernel_rfl) ?_
        repeat' first
          | (refine codeW_cond rfl ?_; first | (refine condW_dec ?_ ?_ <;> intro _ <;> try (exfalso; omega)) | refine condW_not ?_ | (refine condW_bool ?_ ?_ <;> intro _ <;> try (exfalso; omega)))
          | (refine facW_intro ?_; intro _)
          | refine Or.inl ?_
          | ((conv => whnf); first | (refine condW_dec ?_ ?_ <;> intro _ <;> try (exfalso; omega)) | refine condW_not ?_ | (refine condW_bool ?_ ?_ <;> intro _ <;> try (exfalso; omega)) | (refine nbC_t (fun _ => ?_) ?_) | (refine nbC_f ?_ (fun _ => ?_)))
          | refine And.intro (by first | omega | (simp only [Int.toNat_natCast] at *; omega) | (simp only [Nat.reduceAdd, Int.cast_ofNat_Int, true_and, and_true]; omega)  | kernel_rfl) ?_
          | refine RegW.run ?_
          | refine ⟨_, h1, ?_⟩
          | refine ⟨_, h2, ?_⟩
          | refine ⟨_, h3, ?_⟩
          | refine ⟨_, h4, ?_⟩
          | refine ⟨_, h5, ?_⟩
          | fail
        all_goals first
          | (exfalso; omega)
          | exact Dle.refl _ _
          | trace_state
    · rw [if_neg c2] at h5 ⊢
      unfold fpS at h5 ⊢
      have y1 := z0 (Int.toNat 0) r.toNat
      have y2 := z0 r.toNat ((t.size : Int)).toNat
      have y3 := z1 (Int.toNat 0) r.toNat
      have y4 := z2 (Int.toNat 0) r.toNat
      have y5 := z3 (Int.toNat 0) r.toNat
      clear z0 z1 z2 z3
      cases bb
      · refine Sp.body Tryd.func4 (by kernel_rfl) rfl (by kernel_rfl) (by kernel_rfl) (by kernel_rfl) ?_
        repeat' first
          | (refine codeW_cond rfl ?_; first | (refine condW_dec ?_ ?_ <;> intro _ <;> try (exfalso; omega)) | refine condW_not ?_ | (refine condW_bool ?_ ?_ <;> intro _ <;> try (exfalso; omega)))
          | (refine facW_intro ?_; intro _)
          | refine Or.inl ?_
          | ((conv => whnf); first | (refine condW_dec ?_ ?_ <;> intro _ <;> try (exfalso; omega)) | refine condW_not ?_ | (refine condW_bool ?_ ?_ <;> intro _ <;> try (exfalso; omega)) | (refine nbC_t (fun _ => ?_) ?_) | (refine nbC_f ?_ (fun _ => ?_)))
          | refine And.intro (by first | omega | (simp only [Int.toNat_natCast] at *; omega) | (simp only [Nat.reduceAdd, Int.cast_ofNat_Int, true_and, and_true]; omega)  | kernel_rfl) ?_
          | refine RegW.run ?_
          | refine ⟨_, h1, ?_⟩
          | refine ⟨_, h2, ?_⟩
          | refine ⟨_, h3, ?_⟩
          | refine ⟨_, h4, ?_⟩
          | refine ⟨_, h5, ?_⟩
          | fail
        all_goals first
          | (exfalso; omega)
          | exact Dle.refl _ _
          | trace_state
      · refine Sp.body Tryd.func4 (by kernel_rfl) rfl (by kernel_rfl) (by kernel_rfl) (by kernel_rfl) ?_
        repeat' first
          | (refine codeW_cond rfl ?_; first | (refine condW_dec ?_ ?_ <;> intro _ <;> try (exfalso; omega)) | refine condW_not ?_ | (refine condW_bool ?_ ?_ <;> intro _ <;> try (exfalso; omega)))
          | (refine facW_intro ?_; intro _)
          | refine Or.inl ?_
          | ((conv => whnf); first | (refine condW_dec ?_ ?_ <;> intro _ <;> try (exfalso; omega)) | refine condW_not ?_ | (refine condW_bool ?_ ?_ <;> intro _ <;> try (exfalso; omega)) | (refine nbC_t (fun _ => ?_) ?_) | (refine nbC_f ?_ (fun _ => ?_)))
          | refine And.intro (by first | omega | (simp only [Int.toNat_natCast] at *; omega) | (simp only [Nat.reduceAdd, Int.cast_ofNat_Int, true_and, and_true]; omega)  | kernel_rfl) ?_
          | refine RegW.run ?_
          | refine ⟨_, h1, ?_⟩
          | refine ⟨_, h2, ?_⟩
          | refine ⟨_, h3, ?_⟩
          | refine ⟨_, h4, ?_⟩
          | refine ⟨_, h5, ?_⟩
          | fail
        all_goals first
          | (exfalso; omega)
          | exact Dle.refl _ _
          | trace_state
  · rw [if_neg c1]
    rw [show pathB p = false by simpa using c1] at h1
    refine Sp.body Tryd.func4 (by kernel_rfl) rfl (by kernel_rfl) (by kernel_rfl) (by kernel_rfl) ?_
    repeat' first
      | (refine codeW_cond rfl ?_; first | (refine condW_dec ?_ ?_ <;> intro _ <;> try (exfalso; omega)) | refine condW_not ?_ | (refine condW_bool ?_ ?_ <;> intro _ <;> try (exfalso; omega)))
      | (refine facW_intro ?_; intro _)
      | refine Or.inl ?_
      | ((conv => whnf); first | (refine condW_dec ?_ ?_ <;> intro _ <;> try (exfalso; omega)) | refine condW_not ?_ | (refine condW_bool ?_ ?_ <;> intro _ <;> try (exfalso; omega)) | (refine nbC_t (fun _ => ?_) ?_) | (refine nbC_f ?_ (fun _ => ?_)))
      | refine And.intro (by first | omega | (simp only [Int.toNat_natCast] at *; omega) | (simp only [Nat.reduceAdd, Int.cast_ofNat_Int, true_and, and_true]; omega)  | kernel_rfl) ?_
      | refine RegW.run ?_
      | refine ⟨_, h1, ?_⟩
      | fail
    all_goals first
      | (exfalso; omega)
      | exact Dle.refl _ _
      | trace_state
end
end Go.Proofs.YteojgenhgjhohaaDoor.dg
