/-
  A value without the item to which a route leads: what Remove answers; the program's Remove.
-/
import Derived.Test.YtdpbgpkjlbdbfaaGreatDoorCr0
import Derived.Test.YtdpbgpkjlbdbfaaGreatDoorK0
namespace Go.Proofs.YtdpbgpkjlbdbfaaGreatDoor
open Go.RowKit
set_option linter.unusedVariables false
set_option linter.unusedSimpArgs false
namespace cr
theorem wtL_erase : ∀ (l : List Vu) (m : Nat), Vu.wtL (l.eraseIdx m) ≤ Vu.wtL l
  | [], m => by simp [Vu.wtL]
  | x :: r, 0 => by simp only [List.eraseIdx_cons_zero, Vu.wtL]; omega
  | x :: r, m + 1 => by
    have := wtL_erase r m
    simp only [List.eraseIdx_cons_succ, Vu.wtL]
    omega
theorem wtL_set : ∀ (l : List Vu) (m : Nat) (y : Vu), y.wt ≤ (l.getD m .zero).wt → Vu.wtL (l.set m y) ≤ Vu.wtL l
  | [], m, y, _ => by simp [Vu.wtL]
  | x :: r, 0, y, h => by
    have h : y.wt ≤ x.wt := h
    simp only [List.set_cons_zero, Vu.wtL]
    omega
  | x :: r, m + 1, y, h => by
    have := wtL_set r m y h
    simp only [List.set_cons_succ, Vu.wtL]
    omega
theorem sum_erase : ∀ (l : List ByteArray) (m : Nat), ((l.eraseIdx m).map fun s => s.size + 1).sum ≤ (l.map fun s => s.size + 1).sum
  | [], m => by simp
  | x :: r, 0 => by simp only [List.eraseIdx_cons_zero, List.map_cons, List.sum_cons]; omega
  | x :: r, m + 1 => by
    have := sum_erase r m
    simp only [List.eraseIdx_cons_succ, List.map_cons, List.sum_cons]
    omega
theorem wt_eq (v : Vu) : v.wt = v.text.size + 1 + Vu.wtL v.items + (v.keys.map fun s => s.size + 1).sum := by cases v; simp only [Vu.wt, Vu.text, Vu.items, Vu.keys]
theorem remAt_wt (v : Vu) (k : Nat) : (remAt v k).wt ≤ v.wt := by
  have h1 := wtL_erase v.items k
  have h2 := sum_erase v.keys k
  have e := wt_eq v
  unfold remAt
  by_cases h6 : v.kind = 6
  · rw [if_pos h6]
    simp only [Vu.wt]
    omega
  · rw [if_neg h6]
    simp only [Vu.wt]
    omega
theorem setAt_wt (v y : Vu) (k : Nat) (h : y.wt ≤ (v.items.getD k .zero).wt) : (setAt v k y).wt ≤ v.wt := by
  cases v with
  | mk k0 b i t l ks =>
    have h1 := wtL_set l k y h
    simp only [setAt, Vu.wt, Vu.kind, Vu.b, Vu.i, Vu.text, Vu.items, Vu.keys]
    omega
theorem remS_wt : ∀ (L : List Stp) (v y : Vu), (∀ s ∈ L, s.ok) → faultE v = 0 → remS L v = some y → y.wt ≤ v.wt
  | [], v, y, _, _, h => by simp [remS] at h
  | [s], v, y, hs, hf, h => by
    unfold remS at h
    split at h
    · cases h
    · injection h with h
      subst h
      exact remAt_wt _ _
  | s :: t :: r, v, y, hs, hf, h => by
    unfold remS at h
    split at h
    · cases h
    · rename_i x hx
      split at h
      · cases h
      · rename_i z hz
        injection h with h
        subst h
        have h0 := hs s List.mem_cons_self
        obtain ⟨_, p2, _⟩ := pos_at h0 hf hx
        refine setAt_wt _ _ _ ?_
        rw [← p2]
        exact remS_wt (t :: r) x z (fun q hq => hs q (List.mem_cons_of_mem _ hq)) (follow_mem h0 hf hx).1 hz
theorem rem_some : ∀ (L : List Stp) (v : Vu), L ≠ [] → ((remS L v).isSome = (getS L v).isSome)
  | [], v, h => absurd rfl h
  | [s], v, _ => by
    unfold remS getS
    cases followS v s <;> rfl
  | s :: t :: r, v, _ => by
    have ih := fun x => rem_some (t :: r) x (by simp)
    unfold remS
    rw [getS]
    cases followS v s with
    | none => rfl
    | some x =>
      show _ = (getS (t :: r) x).isSome
      rw [← ih x]
      show (match remS (t :: r) x with | none => none | some y => some (setAt v (posS v s) y)).isSome = _
      cases remS (t :: r) x <;> rfl
/-- What Remove answers. -/
def removeR (v : Vu) (s : ByteArray) : Vu × Int :=
  if checkE v ≠ 0 then (.zero, checkE v) else if routeOk false s = false ∨ s = ⟨#[]⟩ then (.zero, 3) else match remS ((partsR s).map stepOf) v with
    | some x => (x, 0)
    | none => (.zero, 7)
theorem route_len {s : ByteArray} (h : routeOk false s = true) : (partsR s).length = 0 ↔ s = ⟨#[]⟩ := parts_none (fun h2 => by rw [routeOk_long h2] at h; cases h)
section
variable (E : Env)
set_option maxRecDepth 100000
set_option maxHeartbeats 4000000 in
theorem cRemove_sp (hML : ∀ w, E.G w → ML w) (v : Vu) (s : ByteArray) (hw : v.wt ≤ 100000000) (hs : s.size ≤ 100000000) : Sp (cx Tryz.prog mixed tyT_ok E) 16 [encV v, dS s] (.tup [encV (removeR v s).1, i64 (removeR v s).2]) := by
  have hc := check_sp E v (by have := cnt_le_wt v; omega)
  have hst := steps_sp E hML s false (by omega)
  have hf := @check_ok v
  obtain ⟨r, hr⟩ : ∃ r, r = removeR v s := ⟨_, rfl⟩
  rw [← hr]
  unfold removeR at hr
  generalize checkE v = e at hc hf hr
  by_cases he : e = 0
  · have hfv := hf he
    clear hf
    rw [if_neg (show ¬ (e ≠ 0) from fun h2 => h2 he)] at hr
    subst he
    cases ho : routeOk false s
    · rw [ho] at hst hr
      have hr := hr.trans (if_pos (.inl rfl))
      subst hr
      refine Sp.body Tryz.func16 (by kernel_rfl) rfl (by kernel_rfl) (by kernel_rfl) (by kernel_rfl) ?_
      repeat' first
        | (refine codeW_cond rfl ?_; first | (refine condW_dec ?_ ?_ <;> intro _ <;> try (exfalso; omega)) | refine condW_not ?_ | (refine condW_bool ?_ ?_ <;> intro _ <;> try (exfalso; omega)))
        | (refine facW_intro ?_; intro _)
        | refine Or.inl ?_
        | ((conv => whnf); first | (refine condW_dec ?_ ?_ <;> intro _ <;> try (exfalso; omega)) | refine condW_not ?_ | (refine condW_bool ?_ ?_ <;> intro _ <;> try (exfalso; omega)) | (refine nbC_t (fun _ => ?_) ?_) | (refine nbC_f ?_ (fun _ => ?_)))
        | refine And.intro (by first | omega | (simp only [Int.toNat_natCast] at *; omega) | (simp only [Nat.reduceAdd, Int.cast_ofNat_Int, true_and, and_true]; omega)  | kernel_rfl) ?_
        | refine RegW.run ?_
        | refine ⟨_, hc, ?_⟩
        | refine ⟨_, hst, ?_⟩
        | fail
      all_goals first
        | (exfalso; omega)
        | (exfalso; rename_i h; cases h; done)
        | exact Dle.tup (X := (cx Tryz.prog mixed tyT_ok E)) ⟨zeroC E, Dle.refl _ _, trivial⟩
        | trace_state
    · have hl := route_len ho
      rw [ho, if_pos rfl] at hst
      rw [ho] at hr
      by_cases h0 : s = ⟨#[]⟩
      · have hr := hr.trans (if_pos (.inr h0))
        subst hr
        have hl0 : ((partsR s).map stepOf).length = 0 := by rw [List.length_map]; exact hl.2 h0
        refine Sp.body Tryz.func16 (by kernel_rfl) rfl (by kernel_rfl) (by kernel_rfl) (by kernel_rfl) ?_
        repeat' first
          | (refine codeW_cond rfl ?_; first | (refine condW_dec ?_ ?_ <;> intro _ <;> try (exfalso; omega)) | refine condW_not ?_ | (refine condW_bool ?_ ?_ <;> intro _ <;> try (exfalso; omega)))
          | (refine facW_intro ?_; intro _)
          | refine Or.inl ?_
          | ((conv => whnf); first | (refine condW_dec ?_ ?_ <;> intro _ <;> try (exfalso; omega)) | refine condW_not ?_ | (refine condW_bool ?_ ?_ <;> intro _ <;> try (exfalso; omega)) | (refine nbC_t (fun _ => ?_) ?_) | (refine nbC_f ?_ (fun _ => ?_)))
          | refine And.intro (by first | omega | (simp only [Int.toNat_natCast] at *; omega) | (simp only [Nat.reduceAdd, Int.cast_ofNat_Int, true_and, and_true]; omega)  | kernel_rfl) ?_
          | refine RegW.run ?_
          | refine ⟨_, hc, ?_⟩
          | refine ⟨_, hst, ?_⟩
          | fail
        all_goals first
          | (exfalso; omega)
          | (exfalso; rename_i h; cases h; done)
          | exact Dle.tup (X := (cx Tryz.prog mixed tyT_ok E)) ⟨zeroC E, Dle.refl _ _, trivial⟩
          | trace_state
      · have hr := hr.trans (if_neg (by simp [h0]))
        have hln : ((partsR s).map stepOf).length ≠ 0 := by rw [List.length_map]; exact fun h => h0 (hl.1 h)
        have hg := remove_sp E ((partsR s).map stepOf) v (fun h => hln (by rw [h]; rfl)) (steps_ok _) hfv (by omega)
        have hgw := fun y => remS_wt ((partsR s).map stepOf) v y (steps_ok _) hfv
        generalize remS ((partsR s).map stepOf) v = q at hg hgw hr
        cases q with
        | none =>
          subst hr
          refine Sp.body Tryz.func16 (by kernel_rfl) rfl (by kernel_rfl) (by kernel_rfl) (by kernel_rfl) ?_
          repeat' first
            | (refine codeW_cond rfl ?_; first | (refine condW_dec ?_ ?_ <;> intro _ <;> try (exfalso; omega)) | refine condW_not ?_ | (refine condW_bool ?_ ?_ <;> intro _ <;> try (exfalso; omega)))
            | (refine facW_intro ?_; intro _)
            | refine Or.inl ?_
            | ((conv => whnf); first | (refine condW_dec ?_ ?_ <;> intro _ <;> try (exfalso; omega)) | refine condW_not ?_ | (refine condW_bool ?_ ?_ <;> intro _ <;> try (exfalso; omega)) | (refine nbC_t (fun _ => ?_) ?_) | (refine nbC_f ?_ (fun _ => ?_)))
            | refine And.intro (by first | omega | (simp only [Int.toNat_natCast] at *; omega) | (simp only [Nat.reduceAdd, Int.cast_ofNat_Int, true_and, and_true]; omega)  | kernel_rfl) ?_
            | refine RegW.run ?_
            | refine ⟨_, hc, ?_⟩
            | refine ⟨_, hst, ?_⟩
            | refine ⟨_, hg, ?_⟩
            | fail
          all_goals first
            | (exfalso; omega)
            | (exfalso; rename_i h; cases h; done)
            | exact Dle.tup (X := (cx Tryz.prog mixed tyT_ok E)) ⟨zeroC E, Dle.refl _ _, trivial⟩
            | trace_state
        | some y =>
          subst hr
          have hcl := clone_sp E _ y (Nat.lt_succ_self _) (by have := hgw y rfl; omega)
          refine Sp.body Tryz.func16 (by kernel_rfl) rfl (by kernel_rfl) (by kernel_rfl) (by kernel_rfl) ?_
          repeat' first
            | (refine codeW_cond rfl ?_; first | (refine condW_dec ?_ ?_ <;> intro _ <;> try (exfalso; omega)) | refine condW_not ?_ | (refine condW_bool ?_ ?_ <;> intro _ <;> try (exfalso; omega)))
            | (refine facW_intro ?_; intro _)
            | refine Or.inl ?_
            | ((conv => whnf); first | (refine condW_dec ?_ ?_ <;> intro _ <;> try (exfalso; omega)) | refine condW_not ?_ | (refine condW_bool ?_ ?_ <;> intro _ <;> try (exfalso; omega)) | (refine nbC_t (fun _ => ?_) ?_) | (refine nbC_f ?_ (fun _ => ?_)))
            | refine And.intro (by first | omega | (simp only [Int.toNat_natCast] at *; omega) | (simp only [Nat.reduceAdd, Int.cast_ofNat_Int, true_and, and_true]; omega)  | kernel_rfl) ?_
            | refine RegW.run ?_
            | refine ⟨_, hc, ?_⟩
            | refine ⟨_, hst, ?_⟩
            | refine ⟨_, hg, ?_⟩
            | refine ⟨_, hcl, ?_⟩
            | fail
          all_goals first
            | (exfalso; omega)
            | (exfalso; rename_i h; cases h; done)
            | (exfalso; rename_i h; exact h rfl)
            | exact Dle.tup (X := (cx Tryz.prog mixed tyT_ok E)) ⟨Dle.refl _ _, Dle.refl _ _, trivial⟩
            | trace_state
  · rw [if_pos he] at hr
    subst hr
    refine Sp.body Tryz.func16 (by kernel_rfl) rfl (by kernel_rfl) (by kernel_rfl) (by kernel_rfl) ?_
    repeat' first
      | (refine codeW_cond rfl ?_; first | (refine condW_dec ?_ ?_ <;> intro _ <;> try (exfalso; omega)) | refine condW_not ?_ | (refine condW_bool ?_ ?_ <;> intro _ <;> try (exfalso; omega)))
      | (refine facW_intro ?_; intro _)
      | refine Or.inl ?_
      | ((conv => whnf); first | (refine condW_dec ?_ ?_ <;> intro _ <;> try (exfalso; omega)) | refine condW_not ?_ | (refine condW_bool ?_ ?_ <;> intro _ <;> try (exfalso; omega)) | (refine nbC_t (fun _ => ?_) ?_) | (refine nbC_f ?_ (fun _ => ?_)))
      | refine And.intro (by first | omega | (simp only [Int.toNat_natCast] at *; omega) | (simp only [Nat.reduceAdd, Int.cast_ofNat_Int, true_and, and_true]; omega)  | kernel_rfl) ?_
      | refine RegW.run ?_
      | refine ⟨_, hc, ?_⟩
      | fail
    all_goals first
      | (exfalso; omega)
      | exact Dle.tup (X := (cx Tryz.prog mixed tyT_ok E)) ⟨zeroC E, Dle.refl _ _, trivial⟩
      | trace_state
end
end cr
end Go.Proofs.YtdpbgpkjlbdbfaaGreatDoor
