/-
  What Merge answers; the program's Merge, the reference's MergeOf, the law's walk.
-/
import Derived.Test.YtndlgoklgclmjaaDoorMg2
import Derived.Test.YtndlgoklgclmjaaDoorAp1
namespace Go.Proofs.YtndlgoklgclmjaaDoor
open Go.RowKit
set_option linter.unusedVariables false
set_option linter.unusedSimpArgs false
namespace mg
open cr se ap so tab
theorem uniq {pm : List (ByteArray × Vu)} (hn : (pm.map (·.1)).Nodup) {k : ByteArray} {a b : Vu} (ha : (k, a) ∈ pm) (hb : (k, b) ∈ pm) : a = b := by
  obtain ⟨i, hi, ei⟩ := tab.getD_in (d := ((⟨#[]⟩, .zero) : ByteArray × Vu)) ha
  obtain ⟨j, hj, ej⟩ := tab.getD_in (d := ((⟨#[]⟩, .zero) : ByteArray × Vu)) hb
  have h : kAt pm i = kAt pm j := by unfold kAt; rw [ei, ej]
  have h2 := kAt_inj hn hi hj h
  rw [h2, ej] at ei
  exact (Prod.mk.inj ei).2.symm
/-- The item of a key, or the zero value. -/
def itemAt (t : Vu) (key : ByteArray) : Vu := if hasK t key = true then t.items.getD (findK t key) .zero else .zero
theorem tab_item {T : Vu} {pm : List (ByteArray × Vu)} (h : TabOf T pm) {far : Vu} {key : ByteArray} (hF : FarAt far pm key) : itemAt T key = itemAt far key := by
  unfold itemAt
  cases hh : hasK far key with
  | true =>
    have hm := hF.1 hh
    obtain ⟨i, hi, e⟩ := tab.getD_in (d := (⟨#[]⟩ : ByteArray)) (h.all _ hm)
    obtain ⟨f1, f2⟩ := rs.find_at h.srt hi e
    have h2 := h.has i hi
    rw [e] at h2
    rw [if_pos f2, if_pos rfl, f1]
    exact uniq h.nd h2 hm
  | false =>
    rw [if_neg (show ¬ (false = true) by decide), if_neg]
    intro ht
    have hlt := has_lt ht
    unfold hasK at ht
    simp only [Bool.and_eq_true, decide_eq_true_eq] at ht
    exact hF.2 hh _ (h.has _ hlt) ht.2
theorem putK_wt {u : Vu} {key : ByteArray} (y : Vu) (h6 : u.kind = 6) (hk : ¬ key = ⟨#[]⟩) : (putK u key y).wt + (itemAt u key).wt ≤ u.wt + y.wt + key.size + 2 := by
  have h := put_wt u ⟨key, 0, false⟩ y (by unfold kindS; rw [if_neg hk]; exact h6) (by unfold Stp.ok; exact Int.le_refl _)
  have e1 : putAt u ⟨key, 0, false⟩ y = putK u key y := by unfold putAt; rw [if_neg hk]
  have e2 : (followS u ⟨key, 0, false⟩).getD .zero = itemAt u key := by
    unfold followS itemAt
    rw [if_neg hk, h6]
    by_cases hh : hasK u key = true
    · rw [if_pos ⟨rfl, hh⟩, if_pos hh]; rfl
    · rw [if_neg (fun q => hh q.2), if_neg hh]; rfl
  rw [e1, e2] at h
  exact h
theorem mergeL_wt (far : Vu) : ∀ (l : List Vu) (ks : List ByteArray) (out : Vu) (pm : List (ByteArray × Vu)), (∀ x ∈ l, ∀ key, hasK far key = true → (mergeV x (far.items.getD (findK far key) .zero)).wt ≤ 2 * x.wt + (far.items.getD (findK far key) .zero).wt) →
    TabOf out pm → (∀ key ∈ ks, FarAt far pm key) → Srt ks → (∀ key ∈ ks, ¬ key = ⟨#[]⟩) → (mergeL l ks far out).wt ≤ out.wt + 2 * Vu.wtL l + (ks.map fun s => s.size + 2).sum
  | [], ks, out, pm, _, _, _, _, _ => by
    simp only [mergeL]
    omega
  | x :: l, [], out, pm, _, _, _, _, _ => by
    simp only [mergeL]
    omega
  | x :: l, k :: ks, out, pm, hx, hT, hF, hs, hk => by
    simp only [mergeL]
    have hF0 := hF k List.mem_cons_self
    have hit := tab_item hT hF0
    have h6 : out.kind = 6 := by rw [hT.form]; rfl
    obtain ⟨y, hy⟩ : ∃ y, y = if hasK far k = true then mergeV x (far.items.getD (findK far k) .zero) else x := ⟨_, rfl⟩
    rw [← hy]
    have hyw : y.wt ≤ 2 * x.wt + (itemAt far k).wt := by
      rw [hy]
      unfold itemAt
      by_cases hh : hasK far k = true
      · rw [if_pos hh, if_pos hh]
        exact hx x List.mem_cons_self k hh
      · rw [if_neg hh, if_neg hh]
        omega
    have hp := putK_wt (u := out) (key := k) y h6 (hk k List.mem_cons_self)
    rw [hit] at hp
    have ih := mergeL_wt far l ks (putK out k y) (pset pm k y) (fun x hx' => hx x (List.mem_cons_of_mem _ hx')) (tab_put hT k y) (fun key hkm => far_set (hF key (List.mem_cons_of_mem _ hkm)) (fun e => by
      have := srt_head hs hkm
      rw [e, strLt_irrefl] at this
      cases this)) (srt_tail hs) (fun key hkm => hk key (List.mem_cons_of_mem _ hkm))
    simp only [Vu.wtL, List.map_cons, List.sum_cons]
    omega
theorem sum_two : ∀ l : List ByteArray, (l.map fun s => s.size + 2).sum ≤ 2 * (l.map fun s => s.size + 1).sum
  | [] => Nat.le_refl _
  | x :: r => by
    have := sum_two r
    simp only [List.map_cons, List.sum_cons]
    omega
theorem key_ne {v : Vu} (hf : faultE v = 0) {key : ByteArray} (h : key ∈ v.keys) : ¬ key = ⟨#[]⟩ := fun e => by
  obtain ⟨i, hi, hk⟩ := tab.getD_in (d := (⟨#[]⟩ : ByteArray)) h
  have h1 := (keysFrom_ok (v.keys.length + 1) v.keys 0 (by omega) (head_ok (fault_head hf).1).2 i (Nat.zero_le _) hi).1
  rw [hk, e] at h1
  unfold keyOkB at h1
  simp only [Bool.and_eq_true, decide_eq_true_eq] at h1
  exact absurd h1.1.1.1 (by decide)
theorem mergeV_wt : ∀ (N : Nat) (v far : Vu), SizeOf.sizeOf v < N → faultE v = 0 → faultE far = 0 → (mergeV v far).wt ≤ 2 * v.wt + far.wt
  | 0, v, far, h, _, _ => by omega
  | N + 1, v, far, h, hv, hf => by
    rw [mergeV_eq]
    by_cases hc : v.kind ≠ 6 ∨ far.kind ≠ 6
    · rw [if_pos hc]
      omega
    · rw [if_neg hc]
      have hfs := fault_keys hf
      have hl2 := hfs.2 (by omega)
      have hT0 := zip_tab (form6 hf (by omega)) hl2 hfs.1
      have hF0 := far_zip hfs.1
      have h1 := mergeL_wt far v.items v.keys far (zipT far far.keys.length) (fun x hx key hh => mergeV_wt N x _ (by have := items_lt v x hx; omega) ((faultL_iff v.items).1 (fault_head hv).2 x hx) (fault_mem hf (by have := has_lt hh; omega))) hT0 (fun key _ => hF0 key) (fault_keys hv).1 (fun key hk => key_ne hv hk)
      have h2 := wt_eq v
      have h3 := sum_two v.keys
      omega
/-- What Merge answers. -/
def mergeR (v far : Vu) : Vu × Int :=
  if checkE v ≠ 0 then (.zero, checkE v) else if checkE far ≠ 0 then (.zero, checkE far) else if checkE (mergeV v far) ≠ 0 then (.zero, checkE (mergeV v far)) else (mergeV v far, 0)
section
variable (E : Env)
set_option maxRecDepth 100000
set_option maxHeartbeats 8000000 in
theorem cMerge_sp (v x : Vu) (hw : v.wt ≤ 10000000) (hx : x.wt ≤ 10000000) : Sp (cx Tryd.prog mixed tyT_ok E) 4 [encV v, encV x] (.tup [encV (mergeR v x).1, i64 (mergeR v x).2]) := by
  have hcv := check_sp E v (by have := cnt_le_wt v; omega)
  have hcx := check_sp E x (by have := cnt_le_wt x; omega)
  have hf := @check_ok v
  have hfx := @check_ok x
  obtain ⟨r, hr⟩ : ∃ r, r = mergeR v x := ⟨_, rfl⟩
  rw [← hr]
  unfold mergeR at hr
  generalize checkE v = ev at hcv hf hr
  generalize checkE x = ex at hcx hfx hr
  refine Sp.body Tryd.func4 (by kernel_rfl) rfl (by kernel_rfl) (by kernel_rfl) (by kernel_rfl) ?_
  repeat' first
    | (refine codeW_cond rfl ?_; first | (refine condW_dec ?_ ?_ <;> intro _ <;> try (exfalso; omega)) | refine condW_not ?_ | (refine condW_bool ?_ ?_ <;> intro _ <;> try (exfalso; omega)))
    | (refine facW_intro ?_; intro _)
    | refine Or.inl ?_
    | ((conv => whnf); first | (refine condW_dec ?_ ?_ <;> intro _ <;> try (exfalso; omega)) | refine condW_not ?_ | (refine condW_bool ?_ ?_ <;> intro _ <;> try (exfalso; omega)) | (refine nbC_t (fun _ => ?_) ?_) | (refine nbC_f ?_ (fun _ => ?_)))
    | refine And.intro (by first | omega | (simp only [Int.toNat_natCast] at *; omega) | (simp only [Nat.reduceAdd, Int.cast_ofNat_Int, true_and, and_true]; omega)  | (simp only [cx, view, Nat.reduceAdd, Int.toNat_natCast]; omega) | kernel_rfl) ?_
    | refine RegW.run ?_
    | fail
  refine ⟨Nat, fun k => [(15, i64 k)], fun k => [], [2, 3, 4, 13], fun k => [], fun k => k ≤ 2 ∧ (0 < k → ev = 0) ∧ (1 < k → ex = 0), fun k => 2 - k, ⟨0, ⟨by omega, fun h => by omega, fun h => by omega⟩, ⟨[], ⟨by kernel_rfl, by kernel_rfl, by kernel_rfl, by kernel_rfl, by kernel_rfl, by kernel_rfl, by kernel_rfl⟩, (by repeat' first | exact trivial | exact rfl | kernel_rfl | exact Dle.of_eq rfl | exact MLe.of_eq rfl | exact Dle.i (by omega) | exact Dle.i (by simp only [Int.toNat_natCast] at *; omega) | exact Dle.nil | exact Dle.rc Dle.nil | exact Option.some_ne_none _ | exact Or.inl rfl | exact Or.inr trivial | omega | (simp only [Int.toNat_natCast] at *; omega) | (intro _ _ _ _; exact Dle.of_eq rfl) | refine And.intro ?_ ?_)⟩⟩, fun k hk => ?_⟩
  obtain ⟨hk, hv0, hx0⟩ := hk
  obtain rfl | rfl | rfl : k = 0 ∨ k = 1 ∨ k = 2 := by omega
  · clear hcx hf hv0 hx0 hfx
    repeat' first
      | (refine codeW_cond rfl ?_; first | (refine condW_dec ?_ ?_ <;> intro _ <;> try (exfalso; omega)) | refine condW_not ?_ | (refine condW_bool ?_ ?_ <;> intro _ <;> try (exfalso; omega)))
      | (refine facW_intro ?_; intro _)
      | refine Or.inl ?_
      | ((conv => whnf); first | (refine condW_dec ?_ ?_ <;> intro _ <;> try (exfalso; omega)) | refine condW_not ?_ | (refine condW_bool ?_ ?_ <;> intro _ <;> try (exfalso; omega)) | (refine nbC_t (fun _ => ?_) ?_) | (refine nbC_f ?_ (fun _ => ?_)))
      | refine And.intro (by first | omega | (simp only [Int.toNat_natCast] at *; omega) | (simp only [Nat.reduceAdd, Int.cast_ofNat_Int, true_and, and_true]; omega)  | (simp only [cx, view, Nat.reduceAdd, Int.toNat_natCast]; omega) | kernel_rfl) ?_
      | refine RegW.run ?_
      | refine ⟨_, hcv, ?_⟩
      | fail
    all_goals first
      | (exfalso; omega)
      | (rename_i h; have h0 : ev = 0 := (by omega); exact ⟨1, ⟨by omega, fun _ => h0, fun h => by omega⟩, ⟨[], ⟨by kernel_rfl, by kernel_rfl, by kernel_rfl, by kernel_rfl, by kernel_rfl, by kernel_rfl, by kernel_rfl⟩, (by repeat' first | exact trivial | exact rfl | kernel_rfl | exact Dle.of_eq rfl | exact MLe.of_eq rfl | exact Dle.i (by omega) | exact Dle.i (by simp only [Int.toNat_natCast] at *; omega) | exact Dle.nil | exact Dle.rc Dle.nil | exact Option.some_ne_none _ | exact Or.inl rfl | exact Or.inr trivial | omega | (simp only [Int.toNat_natCast] at *; omega) | (intro _ _ _ _; exact Dle.of_eq rfl) | refine And.intro ?_ ?_)⟩, by first | omega | (dsimp only; omega)⟩)
      | (rename_i h; have h0 : ev ≠ 0 := (by omega); rw [if_pos h0] at hr; subst hr; exact Dle.tup (X := (cx Tryd.prog mixed tyT_ok E)) ⟨zeroC E, Dle.refl _ _, trivial⟩)
      | trace_state
  · have h1 := hv0 (by omega)
    subst h1
    rw [if_neg (show ¬ ((0 : Int) ≠ 0) from fun h2 => h2 rfl)] at hr
    clear hcv hf hv0 hx0 hfx
    repeat' first
      | (refine codeW_cond rfl ?_; first | (refine condW_dec ?_ ?_ <;> intro _ <;> try (exfalso; omega)) | refine condW_not ?_ | (refine condW_bool ?_ ?_ <;> intro _ <;> try (exfalso; omega)))
      | (refine facW_intro ?_; intro _)
      | refine Or.inl ?_
      | ((conv => whnf); first | (refine condW_dec ?_ ?_ <;> intro _ <;> try (exfalso; omega)) | refine condW_not ?_ | (refine condW_bool ?_ ?_ <;> intro _ <;> try (exfalso; omega)) | (refine nbC_t (fun _ => ?_) ?_) | (refine nbC_f ?_ (fun _ => ?_)))
      | refine And.intro (by first | omega | (simp only [Int.toNat_natCast] at *; omega) | (simp only [Nat.reduceAdd, Int.cast_ofNat_Int, true_and, and_true]; omega)  | (simp only [cx, view, Nat.reduceAdd, Int.toNat_natCast]; omega) | kernel_rfl) ?_
      | refine RegW.run ?_
      | refine ⟨_, hcx, ?_⟩
      | fail
    all_goals first
      | (exfalso; omega)
      | (rename_i h; have h0 : ex = 0 := (by omega); exact ⟨2, ⟨by omega, fun _ => rfl, fun _ => h0⟩, ⟨[], ⟨by kernel_rfl, by kernel_rfl, by kernel_rfl, by kernel_rfl, by kernel_rfl, by kernel_rfl, by kernel_rfl⟩, (by repeat' first | exact trivial | exact rfl | kernel_rfl | exact Dle.of_eq rfl | exact MLe.of_eq rfl | exact Dle.i (by omega) | exact Dle.i (by simp only [Int.toNat_natCast] at *; omega) | exact Dle.nil | exact Dle.rc Dle.nil | exact Option.some_ne_none _ | exact Or.inl rfl | exact Or.inr trivial | omega | (simp only [Int.toNat_natCast] at *; omega) | (intro _ _ _ _; exact Dle.of_eq rfl) | refine And.intro ?_ ?_)⟩, by first | omega | (dsimp only; omega)⟩)
      | (rename_i h; have h0 : ex ≠ 0 := (by omega); rw [if_pos h0] at hr; subst hr; exact Dle.tup (X := (cx Tryd.prog mixed tyT_ok E)) ⟨zeroC E, Dle.refl _ _, trivial⟩)
      | trace_state
  · have h1 := hv0 (by omega)
    have h2 := hx0 (by omega)
    have hfv := hf h1
    have hfX := hfx h2
    subst h1 h2
    rw [if_neg (show ¬ ((0 : Int) ≠ 0) from fun h2 => h2 rfl), if_neg (show ¬ ((0 : Int) ≠ 0) from fun h2 => h2 rfl)] at hr
    clear hcv hcx hf hv0 hx0 hfx
    have hm := merge_sp E _ v x (Nat.lt_succ_self _) hfv hfX (by omega) (by omega)
    have hmw := mergeV_wt _ v x (Nat.lt_succ_self _) hfv hfX
    generalize mergeV v x = y at hm hr hmw
    have hcy := check_sp E y (by have := cnt_le_wt y; omega)
    have hcl := clone_sp E _ y (Nat.lt_succ_self _) (by omega)
    generalize checkE y = ey at hcy hr
    by_cases hy : ey = 0
    · subst hy
      have hr := hr.trans (if_neg (fun h => h rfl))
      subst hr
      repeat' first
        | (refine codeW_cond rfl ?_; first | (refine condW_dec ?_ ?_ <;> intro _ <;> try (exfalso; omega)) | refine condW_not ?_ | (refine condW_bool ?_ ?_ <;> intro _ <;> try (exfalso; omega)))
        | (refine facW_intro ?_; intro _)
        | refine Or.inl ?_
        | ((conv => whnf); first | (refine condW_dec ?_ ?_ <;> intro _ <;> try (exfalso; omega)) | refine condW_not ?_ | (refine condW_bool ?_ ?_ <;> intro _ <;> try (exfalso; omega)) | (refine nbC_t (fun _ => ?_) ?_) | (refine nbC_f ?_ (fun _ => ?_)))
        | refine And.intro (by first | omega | (simp only [Int.toNat_natCast] at *; omega) | (simp only [Nat.reduceAdd, Int.cast_ofNat_Int, true_and, and_true]; omega)  | (simp only [cx, view, Nat.reduceAdd, Int.toNat_natCast]; omega) | kernel_rfl) ?_
        | refine RegW.run ?_
        | refine ⟨_, hm, ?_⟩
        | refine ⟨_, hcy, ?_⟩
        | refine ⟨_, hcl, ?_⟩
        | fail
      all_goals first
        | (exfalso; omega)
        | exact Dle.tup (X := (cx Tryd.prog mixed tyT_ok E)) ⟨Dle.refl _ _, Dle.refl _ _, trivial⟩
        | trace_state
    · have hr := hr.trans (if_pos hy)
      subst hr
      repeat' first
        | (refine codeW_cond rfl ?_; first | (refine condW_dec ?_ ?_ <;> intro _ <;> try (exfalso; omega)) | refine condW_not ?_ | (refine condW_bool ?_ ?_ <;> intro _ <;> try (exfalso; omega)))
        | (refine facW_intro ?_; intro _)
        | refine Or.inl ?_
        | ((conv => whnf); first | (refine condW_dec ?_ ?_ <;> intro _ <;> try (exfalso; omega)) | refine condW_not ?_ | (refine condW_bool ?_ ?_ <;> intro _ <;> try (exfalso; omega)) | (refine nbC_t (fun _ => ?_) ?_) | (refine nbC_f ?_ (fun _ => ?_)))
        | refine And.intro (by first | omega | (simp only [Int.toNat_natCast] at *; omega) | (simp only [Nat.reduceAdd, Int.cast_ofNat_Int, true_and, and_true]; omega)  | (simp only [cx, view, Nat.reduceAdd, Int.toNat_natCast]; omega) | kernel_rfl) ?_
        | refine RegW.run ?_
        | refine ⟨_, hm, ?_⟩
        | refine ⟨_, hcy, ?_⟩
        | fail
      all_goals first
        | (exfalso; omega)
        | exact Dle.tup (X := (cx Tryd.prog mixed tyT_ok E)) ⟨zeroC E, Dle.refl _ _, trivial⟩
        | trace_state
set_option maxHeartbeats 8000000 in
theorem mergeOf_sp (v x : Vu) (hw : v.wt ≤ 10000000) (hx : x.wt ≤ 10000000) : Sp (cx Tryd.prog mixed tyT_ok E) 5 [encV v, encV x] (.tup [encV (mergeR v x).1, i64 (mergeR v x).2]) := by
  have hcv := refCheck_sp E v (by have := cnt_le_wt v; omega)
  have hcx := refCheck_sp E x (by have := cnt_le_wt x; omega)
  have hf := @check_ok v
  have hfx := @check_ok x
  obtain ⟨r, hr⟩ : ∃ r, r = mergeR v x := ⟨_, rfl⟩
  rw [← hr]
  unfold mergeR at hr
  generalize checkE v = ev at hcv hf hr
  generalize checkE x = ex at hcx hfx hr
  refine Sp.body Tryd.func5 (by kernel_rfl) rfl (by kernel_rfl) (by kernel_rfl) (by kernel_rfl) ?_
  repeat' first
    | (refine codeW_cond rfl ?_; first | (refine condW_dec ?_ ?_ <;> intro _ <;> try (exfalso; omega)) | refine condW_not ?_ | (refine condW_bool ?_ ?_ <;> intro _ <;> try (exfalso; omega)))
    | (refine facW_intro ?_; intro _)
    | refine Or.inl ?_
    | ((conv => whnf); first | (refine condW_dec ?_ ?_ <;> intro _ <;> try (exfalso; omega)) | refine condW_not ?_ | (refine condW_bool ?_ ?_ <;> intro _ <;> try (exfalso; omega)) | (refine nbC_t (fun _ => ?_) ?_) | (refine nbC_f ?_ (fun _ => ?_)))
    | refine And.intro (by first | omega | (simp only [Int.toNat_natCast] at *; omega) | (simp only [Nat.reduceAdd, Int.cast_ofNat_Int, true_and, and_true]; omega)  | (simp only [cx, view, Nat.reduceAdd, Int.toNat_natCast]; omega) | kernel_rfl) ?_
    | refine RegW.run ?_
    | fail
  refine ⟨Nat, fun k => [(15, i64 k)], fun k => [], [2, 3, 4, 13], fun k => [], fun k => k ≤ 2 ∧ (0 < k → ev = 0) ∧ (1 < k → ex = 0), fun k => 2 - k, ⟨0, ⟨by omega, fun h => by omega, fun h => by omega⟩, ⟨[], ⟨by kernel_rfl, by kernel_rfl, by kernel_rfl, by kernel_rfl, by kernel_rfl, by kernel_rfl, by kernel_rfl⟩, (by repeat' first | exact trivial | exact rfl | kernel_rfl | exact Dle.of_eq rfl | exact MLe.of_eq rfl | exact Dle.i (by omega) | exact Dle.i (by simp only [Int.toNat_natCast] at *; omega) | exact Dle.nil | exact Dle.rc Dle.nil | exact Option.some_ne_none _ | exact Or.inl rfl | exact Or.inr trivial | omega | (simp only [Int.toNat_natCast] at *; omega) | (intro _ _ _ _; exact Dle.of_eq rfl) | refine And.intro ?_ ?_)⟩⟩, fun k hk => ?_⟩
  obtain ⟨hk, hv0, hx0⟩ := hk
  obtain rfl | rfl | rfl : k = 0 ∨ k = 1 ∨ k = 2 := by omega
  · clear hcx hf hv0 hx0 hfx
    repeat' first
      | (refine codeW_cond rfl ?_; first | (refine condW_dec ?_ ?_ <;> intro _ <;> try (exfalso; omega)) | refine condW_not ?_ | (refine condW_bool ?_ ?_ <;> intro _ <;> try (exfalso; omega)))
      | (refine facW_intro ?_; intro _)
      | refine Or.inl ?_
      | ((conv => whnf); first | (refine condW_dec ?_ ?_ <;> intro _ <;> try (exfalso; omega)) | refine condW_not ?_ | (refine condW_bool ?_ ?_ <;> intro _ <;> try (exfalso; omega)) | (refine nbC_t (fun _ => ?_) ?_) | (refine nbC_f ?_ (fun _ => ?_)))
      | refine And.intro (by first | omega | (simp only [Int.toNat_natCast] at *; omega) | (simp only [Nat.reduceAdd, Int.cast_ofNat_Int, true_and, and_true]; omega)  | (simp only [cx, view, Nat.reduceAdd, Int.toNat_natCast]; omega) | kernel_rfl) ?_
      | refine RegW.run ?_
      | refine ⟨_, hcv, ?_⟩
      | fail
    all_goals first
      | (exfalso; omega)
      | (rename_i h; have h0 : ev = 0 := (by omega); exact ⟨1, ⟨by omega, fun _ => h0, fun h => by omega⟩, ⟨[], ⟨by kernel_rfl, by kernel_rfl, by kernel_rfl, by kernel_rfl, by kernel_rfl, by kernel_rfl, by kernel_rfl⟩, (by repeat' first | exact trivial | exact rfl | kernel_rfl | exact Dle.of_eq rfl | exact MLe.of_eq rfl | exact Dle.i (by omega) | exact Dle.i (by simp only [Int.toNat_natCast] at *; omega) | exact Dle.nil | exact Dle.rc Dle.nil | exact Option.some_ne_none _ | exact Or.inl rfl | exact Or.inr trivial | omega | (simp only [Int.toNat_natCast] at *; omega) | (intro _ _ _ _; exact Dle.of_eq rfl) | refine And.intro ?_ ?_)⟩, by first | omega | (dsimp only; omega)⟩)
      | (rename_i h; have h0 : ev ≠ 0 := (by omega); rw [if_pos h0] at hr; subst hr; exact Dle.tup (X := (cx Tryd.prog mixed tyT_ok E)) ⟨zeroC E, Dle.refl _ _, trivial⟩)
      | trace_state
  · have h1 := hv0 (by omega)
    subst h1
    rw [if_neg (show ¬ ((0 : Int) ≠ 0) from fun h2 => h2 rfl)] at hr
    clear hcv hf hv0 hx0 hfx
    repeat' first
      | (refine codeW_cond rfl ?_; first | (refine condW_dec ?_ ?_ <;> intro _ <;> try (exfalso; omega)) | refine condW_not ?_ | (refine condW_bool ?_ ?_ <;> intro _ <;> try (exfalso; omega)))
      | (refine facW_intro ?_; intro _)
      | refine Or.inl ?_
      | ((conv => whnf); first | (refine condW_dec ?_ ?_ <;> intro _ <;> try (exfalso; omega)) | refine condW_not ?_ | (refine condW_bool ?_ ?_ <;> intro _ <;> try (exfalso; omega)) | (refine nbC_t (fun _ => ?_) ?_) | (refine nbC_f ?_ (fun _ => ?_)))
      | refine And.intro (by first | omega | (simp only [Int.toNat_natCast] at *; omega) | (simp only [Nat.reduceAdd, Int.cast_ofNat_Int, true_and, and_true]; omega)  | (simp only [cx, view, Nat.reduceAdd, Int.toNat_natCast]; omega) | kernel_rfl) ?_
      | refine RegW.run ?_
      | refine ⟨_, hcx, ?_⟩
      | fail
    all_goals first
      | (exfalso; omega)
      | (rename_i h; have h0 : ex = 0 := (by omega); exact ⟨2, ⟨by omega, fun _ => rfl, fun _ => h0⟩, ⟨[], ⟨by kernel_rfl, by kernel_rfl, by kernel_rfl, by kernel_rfl, by kernel_rfl, by kernel_rfl, by kernel_rfl⟩, (by repeat' first | exact trivial | exact rfl | kernel_rfl | exact Dle.of_eq rfl | exact MLe.of_eq rfl | exact Dle.i (by omega) | exact Dle.i (by simp only [Int.toNat_natCast] at *; omega) | exact Dle.nil | exact Dle.rc Dle.nil | exact Option.some_ne_none _ | exact Or.inl rfl | exact Or.inr trivial | omega | (simp only [Int.toNat_natCast] at *; omega) | (intro _ _ _ _; exact Dle.of_eq rfl) | refine And.intro ?_ ?_)⟩, by first | omega | (dsimp only; omega)⟩)
      | (rename_i h; have h0 : ex ≠ 0 := (by omega); rw [if_pos h0] at hr; subst hr; exact Dle.tup (X := (cx Tryd.prog mixed tyT_ok E)) ⟨zeroC E, Dle.refl _ _, trivial⟩)
      | trace_state
  · have h1 := hv0 (by omega)
    have h2 := hx0 (by omega)
    have hfv := hf h1
    have hfX := hfx h2
    subst h1 h2
    rw [if_neg (show ¬ ((0 : Int) ≠ 0) from fun h2 => h2 rfl), if_neg (show ¬ ((0 : Int) ≠ 0) from fun h2 => h2 rfl)] at hr
    clear hcv hcx hf hv0 hx0 hfx
    have hm := merged_sp E _ v x (Nat.lt_succ_self _) hfv hfX (by omega) (by omega)
    have hmw := mergeV_wt _ v x (Nat.lt_succ_self _) hfv hfX
    generalize mergeV v x = y at hm hr hmw
    have hcy := refCheck_sp E y (by have := cnt_le_wt y; omega)
    generalize checkE y = ey at hcy hr
    by_cases hy : ey = 0
    · subst hy
      have hr := hr.trans (if_neg (fun h => h rfl))
      subst hr
      repeat' first
        | (refine codeW_cond rfl ?_; first | (refine condW_dec ?_ ?_ <;> intro _ <;> try (exfalso; omega)) | refine condW_not ?_ | (refine condW_bool ?_ ?_ <;> intro _ <;> try (exfalso; omega)))
        | (refine facW_intro ?_; intro _)
        | refine Or.inl ?_
        | ((conv => whnf); first | (refine condW_dec ?_ ?_ <;> intro _ <;> try (exfalso; omega)) | refine condW_not ?_ | (refine condW_bool ?_ ?_ <;> intro _ <;> try (exfalso; omega)) | (refine nbC_t (fun _ => ?_) ?_) | (refine nbC_f ?_ (fun _ => ?_)))
        | refine And.intro (by first | omega | (simp only [Int.toNat_natCast] at *; omega) | (simp only [Nat.reduceAdd, Int.cast_ofNat_Int, true_and, and_true]; omega)  | (simp only [cx, view, Nat.reduceAdd, Int.toNat_natCast]; omega) | kernel_rfl) ?_
        | refine RegW.run ?_
        | refine ⟨_, hm, ?_⟩
        | refine ⟨_, hcy, ?_⟩
        | fail
      all_goals first
        | (exfalso; omega)
        | exact Dle.tup (X := (cx Tryd.prog mixed tyT_ok E)) ⟨Dle.refl _ _, Dle.refl _ _, trivial⟩
        | trace_state
    · have hr := hr.trans (if_pos hy)
      subst hr
      repeat' first
        | (refine codeW_cond rfl ?_; first | (refine condW_dec ?_ ?_ <;> intro _ <;> try (exfalso; omega)) | refine condW_not ?_ | (refine condW_bool ?_ ?_ <;> intro _ <;> try (exfalso; omega)))
        | (refine facW_intro ?_; intro _)
        | refine Or.inl ?_
        | ((conv => whnf); first | (refine condW_dec ?_ ?_ <;> intro _ <;> try (exfalso; omega)) | refine condW_not ?_ | (refine condW_bool ?_ ?_ <;> intro _ <;> try (exfalso; omega)) | (refine nbC_t (fun _ => ?_) ?_) | (refine nbC_f ?_ (fun _ => ?_)))
        | refine And.intro (by first | omega | (simp only [Int.toNat_natCast] at *; omega) | (simp only [Nat.reduceAdd, Int.cast_ofNat_Int, true_and, and_true]; omega)  | (simp only [cx, view, Nat.reduceAdd, Int.toNat_natCast]; omega) | kernel_rfl) ?_
        | refine RegW.run ?_
        | refine ⟨_, hm, ?_⟩
        | refine ⟨_, hcy, ?_⟩
        | fail
      all_goals first
        | (exfalso; omega)
        | exact Dle.tup (X := (cx Tryd.prog mixed tyT_ok E)) ⟨zeroC E, Dle.refl _ _, trivial⟩
        | trace_state
theorem confMerges_sp (v x : Vu) (hw : v.wt ≤ 10000000) (hx : x.wt ≤ 10000000) : Sp (cx Tryd.prog mixed tyT_ok E) 3 [encV v, encV x] (dB true) := by
  have h1 := cMerge_sp E v x hw hx
  have h2 := mergeOf_sp E v x hw hx
  have h3 := ap.sameSelf_sp E (mergeR v x).1
  generalize mergeR v x = r at h1 h2 h3
  refine Sp.body Tryd.func3 (by kernel_rfl) rfl (by kernel_rfl) (by kernel_rfl) (by kernel_rfl) ?_
  repeat' first
    | (refine codeW_cond rfl ?_; first | (refine condW_dec ?_ ?_ <;> intro _ <;> try (exfalso; omega)) | refine condW_not ?_ | (refine condW_bool ?_ ?_ <;> intro _ <;> try (exfalso; omega)))
    | (refine facW_intro ?_; intro _)
    | refine Or.inl ?_
    | ((conv => whnf); first | (refine condW_dec ?_ ?_ <;> intro _) | refine condW_not ?_ | (refine condW_bool ?_ ?_ <;> intro _) | (refine nbC_t (fun _ => ?_) ?_) | (refine nbC_f ?_ (fun _ => ?_)))
    | refine And.intro (by first | omega | (simp only [Int.toNat_natCast] at *; omega) | (simp only [Nat.reduceAdd, Int.cast_ofNat_Int, true_and, and_true]; omega)  | (simp only [cx, view, Nat.reduceAdd, Int.toNat_natCast]; omega) | kernel_rfl) ?_
    | refine RegW.run ?_
    | refine ⟨_, h1, ?_⟩
    | refine ⟨_, h2, ?_⟩
    | refine ⟨_, h3, ?_⟩
    | fail
  all_goals first
    | (exfalso; rename_i h; exact h rfl)
    | exact Dle.bo (by simp)
    | trace_state
end
end mg
end Go.Proofs.YtndlgoklgclmjaaDoor
