/-
  conf.follow, get, Get; the reference's Step, Follow, GetOf.
-/
import Derived.Test.YtjbgafbijamckaaGreatDoorS3
namespace Go.Proofs.YtjbgafbijamckaaGreatDoor
open Go.RowKit
set_option linter.unusedVariables false
set_option linter.unusedSimpArgs false
/-- Keys without a fault are in order. -/
theorem keysFrom_ok : ∀ (n : Nat) (l : List ByteArray) (k : Nat), l.length - k < n → keysFrom l k = 0 → ∀ i, k ≤ i → i < l.length → keyOkB (l.getD i ⟨#[]⟩) = true ∧ (0 < i → strLt (l.getD (i - 1) ⟨#[]⟩) (l.getD i ⟨#[]⟩) = true)
  | 0, l, k, h, _, i, _, _ => by omega
  | n + 1, l, k, h, h0, i, hi, hil => by
    have hk : k < l.length := by omega
    rw [keysFrom, if_pos hk] at h0
    split at h0
    · rename_i h1
      split at h0
      · cases h0
      · rename_i h2
        rcases Nat.lt_or_ge k i with h3 | h3
        · exact keysFrom_ok n l (k + 1) (by omega) h0 i (by omega) hil
        · obtain rfl : i = k := by omega
          refine ⟨h1, fun h4 => ?_⟩
          have h5 : ¬ (strLt (l.getD i ⟨#[]⟩) (l.getD (i - 1) ⟨#[]⟩) || decide (l.getD i ⟨#[]⟩ = l.getD (i - 1) ⟨#[]⟩)) = true := fun h => h2 ⟨h4, h⟩
          simp only [Bool.or_eq_true, decide_eq_true_eq, not_or] at h5
          exact strLt_total (by simpa using h5.1) h5.2
    · cases h0
theorem head_ok {v : Vu} (h : headE v = 0) : ¬ unusedP v ∧ keysFrom v.keys 0 = 0 := by
  unfold headE at h
  split at h
  · cases h
  · split at h
    · cases h
    · rename_i h1
      split at h
      · cases h
      · split at h
        · cases h
        · split at h
          · cases h
          · exact ⟨h1, h⟩
theorem fault_head {v : Vu} (h : faultE v = 0) : headE v = 0 ∧ faultL v.items = 0 := by
  rw [faultE_eq] at h
  split at h
  · rename_i h1
    exact ⟨h1, h⟩
  · rename_i h1
    exact absurd h h1
theorem faultL_mem : ∀ (l : List Vu), faultL l = 0 → ∀ x ∈ l, faultE x = 0
  | [], _, x, hx => by cases hx
  | a :: l, h, x, hx => by
    rw [faultL] at h
    split at h
    · rename_i h1
      rcases List.mem_cons.1 hx with rfl | hx
      · exact h1
      · exact faultL_mem l h x hx
    · rename_i h1
      exact absurd h h1
theorem fault_mem {v : Vu} (h : faultE v = 0) {k : Nat} (hk : k < v.items.length) : faultE (v.items.getD k .zero) = 0 := faultL_mem _ (fault_head h).2 _ (getD_mem _ _ _ hk)
theorem fault_keys {v : Vu} (h : faultE v = 0) : Srt v.keys ∧ (v.kind = 6 → v.keys.length = v.items.length) := by
  obtain ⟨h1, h2⟩ := head_ok (fault_head h).1
  refine ⟨srt_of fun k hk hk2 => (keysFrom_ok (v.keys.length + 1) v.keys 0 (by omega) h2 k (by omega) hk2).2 hk, fun h3 => ?_⟩
  unfold unusedP at h1
  omega
theorem check_ok {v : Vu} (h : checkE v = 0) : faultE v = 0 := by
  unfold checkE at h
  split at h
  · cases h
  · split at h
    · cases h
    · exact h
/-- The item to which a step, a part leads. -/
def followS (v : Vu) (s : Stp) : Option Vu :=
  if s.key = ⟨#[]⟩ then (if v.kind = 5 ∧ s.number < v.items.length then some (v.items.getD s.number.toNat .zero) else none)
  else if v.kind = 6 ∧ hasK v s.key = true then some (v.items.getD (findK v s.key) .zero) else none
def getS : List Stp → Vu → Option Vu
  | [], v => some v
  | s :: r, v => match followS v s with
    | some x => getS r x
    | none => none
theorem getS_drop {l : List Stp} {k : Nat} {v : Vu} (h : k < l.length) : getS (l.drop k) v = match followS v (l.getD k default) with | some x => getS (l.drop (k + 1)) x | none => none := by
  rw [drop_cons l default k h]; rfl
theorem getS_end {l : List Stp} {k : Nat} {v : Vu} (h : l.length ≤ k) : getS (l.drop k) v = some v := by rw [List.drop_of_length_le h]; rfl
def Stp.ok (s : Stp) : Prop := 0 ≤ s.number
theorem follow_mem {v x : Vu} {s : Stp} (hs : s.ok) (hf : faultE v = 0) (h : followS v s = some x) : faultE x = 0 ∧ x.wt ≤ v.wt := by
  have hw := wtL_le_wt v
  unfold followS at h
  unfold Stp.ok at hs
  split at h
  · split at h
    · rename_i h2
      injection h with h
      subst h
      have hl : s.number.toNat < v.items.length := by omega
      have := wt_mem _ _ (getD_mem v.items .zero _ hl)
      exact ⟨fault_mem hf hl, by omega⟩
    · cases h
  · split at h
    · rename_i h2
      injection h with h
      subst h
      have hk := h2.2
      unfold hasK at hk
      simp only [Bool.and_eq_true, decide_eq_true_eq] at hk
      have hl : findK v s.key < v.items.length := by have := (fault_keys hf).2 h2.1; omega
      have := wt_mem _ _ (getD_mem v.items .zero _ hl)
      exact ⟨fault_mem hf hl, by omega⟩
    · cases h
theorem has_lt {v : Vu} {k : ByteArray} (h : hasK v k = true) : findK v k < v.keys.length := by
  unfold hasK at h
  simp only [Bool.and_eq_true, decide_eq_true_eq] at h
  exact h.1
section
variable (E : Env)
set_option maxRecDepth 100000
theorem zeroC : Dle (cx Tryz.prog mixed tyT_ok E) (.agg [i64 0, dB false, i64 0, dS ⟨#[]⟩, .v (.slice none 0 0), .v (.slice none 0 0)]) (encV .zero) :=
  Dle.agg ⟨Dle.refl _ _, Dle.refl _ _, Dle.refl _ _, Dle.refl _ _, Dle.rc (X := (cx Tryz.prog mixed tyT_ok E)) Dle.nil, Dle.nil (X := (cx Tryz.prog mixed tyT_ok E)), trivial⟩
set_option maxHeartbeats 1000000 in
theorem follow_sp (v : Vu) (s : Stp) (hs : s.ok) (hv : v.kind = 6 → v.keys.length = v.items.length) (hb : v.keys.length ≤ 1000000000000) : Sp (cx Tryz.prog mixed tyT_ok E) 35 [encV v, encStep s] (.tup [encV ((followS v s).getD .zero), dB (followS v s).isSome]) := by
  unfold Stp.ok at hs
  have hl := @has_lt v s.key
  obtain ⟨o, ho⟩ : ∃ o, o = followS v s := ⟨_, rfl⟩
  rw [← ho]
  unfold followS at ho
  refine Sp.body Tryz.func35 (by kernel_rfl) rfl (by kernel_rfl) (by kernel_rfl) (by kernel_rfl) ?_
  repeat' first
    | (refine facW_intro ?_; intro _)
    | refine Or.inl ?_
    | ((conv => whnf); first | (refine condW_dec ?_ ?_ <;> intro _) | refine condW_not ?_ | (refine condW_bool ?_ ?_ <;> intro _) | (refine nbC_t (fun _ => ?_) ?_) | (refine nbC_f ?_ (fun _ => ?_)))
    | refine And.intro (by first | omega | (simp only [Int.toNat_natCast] at *; omega) | (simp only [Nat.reduceAdd, Int.cast_ofNat_Int, true_and, and_true]; omega)  | kernel_rfl) ?_
    | refine RegW.run ?_
    | refine ⟨_, find_sp E v s.key hb, ?_⟩
    | fail
  all_goals try (have hl := hl (by assumption); have hv := hv (by omega))
  all_goals
    repeat' first
      | (refine facW_intro ?_; intro _)
      | refine Or.inl ?_
      | ((conv => whnf); first | (refine condW_dec ?_ ?_ <;> intro _) | refine condW_not ?_ | (refine condW_bool ?_ ?_ <;> intro _) | (refine nbC_t (fun _ => ?_) ?_) | (refine nbC_f ?_ (fun _ => ?_)))
      | refine And.intro (by first | omega | (simp only [Int.toNat_natCast] at *; omega) | (simp only [Nat.reduceAdd, Int.cast_ofNat_Int, true_and, and_true]; omega)  | kernel_rfl) ?_
      | refine RegW.run ?_
      | fail
  all_goals first
    | (have hn : o = none := by rw [ho]; grind
       rw [hn]
       exact Dle.tup (X := (cx Tryz.prog mixed tyT_ok E)) ⟨zeroC E, Dle.refl _ _, trivial⟩)
    | (have hn : o = some (v.items.getD s.number.toNat .zero) := by rw [ho]; grind
       rw [hn]
       exact Dle.tup (X := (cx Tryz.prog mixed tyT_ok E)) ⟨Dle.refl _ _, Dle.refl _ _, trivial⟩)
    | (have hn : o = some (v.items.getD (findK v s.key) .zero) := by rw [ho]; grind
       rw [hn]
       exact Dle.tup (X := (cx Tryz.prog mixed tyT_ok E)) ⟨Dle.refl _ _, Dle.refl _ _, trivial⟩)
set_option maxHeartbeats 1000000 in
theorem get_sp (v : Vu) (l : List Stp) (hs : ∀ s ∈ l, s.ok) (hf : faultE v = 0) (hw : v.wt ≤ 1000000000000) : Sp (cx Tryz.prog mixed tyT_ok E) 26 [encV v, encSteps l] (.tup [encV ((getS l v).getD .zero), dB (getS l v).isSome]) := by
  obtain ⟨o, ho⟩ : ∃ o, o = getS l v := ⟨_, rfl⟩
  rw [← ho]
  refine Sp.body Tryz.func26 (by kernel_rfl) rfl (by kernel_rfl) (by kernel_rfl) (by kernel_rfl) ?_
  repeat' first
    | (refine facW_intro ?_; intro _)
    | refine Or.inl ?_
    | ((conv => whnf); first | (refine condW_dec ?_ ?_ <;> intro _) | refine condW_not ?_ | (refine condW_bool ?_ ?_ <;> intro _) | (refine nbC_t (fun _ => ?_) ?_) | (refine nbC_f ?_ (fun _ => ?_)))
    | refine And.intro (by first | omega | (simp only [Int.toNat_natCast] at *; omega) | (simp only [Nat.reduceAdd, Int.cast_ofNat_Int, true_and, and_true]; omega)  | kernel_rfl) ?_
    | refine RegW.run ?_
    | fail
  refine ⟨Nat × Vu, fun k => [(11, i64 k.1)], fun k => [(2, .cells [i64 k.2.kind, dB k.2.b, i64 k.2.i, dS k.2.text, .rc (.vals k.2.items), encStrs k.2.keys])], [4], fun k => [], fun k => k.1 ≤ l.length ∧ faultE k.2 = 0 ∧ k.2.wt ≤ v.wt ∧ o = getS (l.drop k.1) k.2, fun k => l.length - k.1, ⟨(0, v), ⟨by omega, hf, Nat.le_refl _, ho⟩, ⟨[], ⟨by kernel_rfl, by kernel_rfl, by kernel_rfl, by kernel_rfl, by kernel_rfl, by kernel_rfl, by kernel_rfl⟩, (by repeat' first | exact trivial | exact rfl | kernel_rfl | exact Dle.of_eq rfl | exact MLe.of_eq rfl | exact Dle.i (by omega) | exact Dle.i (by simp only [Int.toNat_natCast] at *; omega) | exact Dle.nil | exact Dle.rc Dle.nil | exact Option.some_ne_none _ | exact Or.inl rfl | exact Or.inr trivial | omega | (simp only [Int.toNat_natCast] at *; omega) | (intro _ _ _ _; exact Dle.of_eq rfl) | refine And.intro ?_ ?_)⟩⟩, fun k hk => ?_⟩
  obtain ⟨h1, h2, h3, h4⟩ := hk
  refine Or.inl ?_
  refine condW_dec ?_ ?_ <;> intro hlt
  · have hlt : k.1 < l.length := by omega
    have hkw := keys_le_wt k.2
    have hso := hs _ (getD_mem l default k.1 hlt)
    have hm := fun x => @follow_mem k.2 x (l.getD k.1 default) hso h2
    rw [getS_drop hlt] at h4
    have hc := follow_sp E k.2 (l.getD k.1 default) hso (fault_keys h2).2 (by omega)
    generalize followS k.2 (l.getD k.1 default) = q at h4 hm hc
    cases q with
    | none =>
      have hc : Sp (cx Tryz.prog mixed tyT_ok E) _ _ (.tup [encV .zero, dB false]) := hc
      have h4 : o = none := h4
      rw [h4]
      repeat' first
        | (refine facW_intro ?_; intro _)
        | refine Or.inl ?_
        | ((conv => whnf); first | (refine condW_dec ?_ ?_ <;> intro _) | refine condW_not ?_ | (refine condW_bool ?_ ?_ <;> intro _) | (refine nbC_t (fun _ => ?_) ?_) | (refine nbC_f ?_ (fun _ => ?_)))
        | refine And.intro (by first | omega | (simp only [Int.toNat_natCast] at *; omega) | (simp only [Nat.reduceAdd, Int.cast_ofNat_Int, true_and, and_true]; omega)  | kernel_rfl) ?_
        | refine RegW.run ?_
        | refine ⟨_, hc, ?_⟩
        | fail
      exact Dle.tup (X := (cx Tryz.prog mixed tyT_ok E)) ⟨zeroC E, Dle.refl _ _, trivial⟩
    | some x =>
      have hc : Sp (cx Tryz.prog mixed tyT_ok E) _ _ (.tup [encV x, dB true]) := hc
      have hm := hm x rfl
      repeat' first
        | (refine facW_intro ?_; intro _)
        | refine Or.inl ?_
        | ((conv => whnf); first | (refine condW_dec ?_ ?_ <;> intro _) | refine condW_not ?_ | (refine condW_bool ?_ ?_ <;> intro _) | (refine nbC_t (fun _ => ?_) ?_) | (refine nbC_f ?_ (fun _ => ?_)))
        | refine And.intro (by first | omega | (simp only [Int.toNat_natCast] at *; omega) | (simp only [Nat.reduceAdd, Int.cast_ofNat_Int, true_and, and_true]; omega)  | kernel_rfl) ?_
        | refine RegW.run ?_
        | refine ⟨_, hc, ?_⟩
        | fail
      exact ⟨(k.1 + 1, x), ⟨by dsimp only; omega, hm.1, by dsimp only; omega, h4⟩, ⟨[], ⟨by kernel_rfl, by kernel_rfl, by kernel_rfl, by kernel_rfl, by kernel_rfl, by kernel_rfl, by kernel_rfl⟩, (by repeat' first | exact trivial | exact rfl | kernel_rfl | exact Dle.of_eq rfl | exact MLe.of_eq rfl | exact Dle.i (by omega) | exact Dle.i (by simp only [Int.toNat_natCast] at *; omega) | exact Dle.nil | exact Dle.rc Dle.nil | exact Option.some_ne_none _ | exact Or.inl rfl | exact Or.inr trivial | omega | (simp only [Int.toNat_natCast] at *; omega) | (intro _ _ _ _; exact Dle.of_eq rfl) | refine And.intro ?_ ?_)⟩, by first | omega | (dsimp only; omega)⟩
  · have h5 := getS_end (l := l) (k := k.1) (v := k.2) (by omega)
    rw [h5] at h4
    rw [h4]
    repeat' first
      | (refine facW_intro ?_; intro _)
      | refine Or.inl ?_
      | ((conv => whnf); first | (refine condW_dec ?_ ?_ <;> intro _) | refine condW_not ?_ | (refine condW_bool ?_ ?_ <;> intro _) | (refine nbC_t (fun _ => ?_) ?_) | (refine nbC_f ?_ (fun _ => ?_)))
      | refine And.intro (by first | omega | (simp only [Int.toNat_natCast] at *; omega) | (simp only [Nat.reduceAdd, Int.cast_ofNat_Int, true_and, and_true]; omega)  | kernel_rfl) ?_
      | refine RegW.run ?_
      | fail
    exact Dle.tup (X := (cx Tryz.prog mixed tyT_ok E)) ⟨Dle.refl _ _, Dle.refl _ _, trivial⟩
/-- What Get answers. -/
def getR (v : Vu) (s : ByteArray) : Vu × Int :=
  if checkE v ≠ 0 then (.zero, checkE v) else if routeOk false s = false then (.zero, 3) else match getS ((partsR s).map stepOf) v with
    | some x => (x, 0)
    | none => (.zero, 7)
theorem steps_ok (l : List ByteArray) : ∀ s ∈ l.map stepOf, s.ok := by
  intro s hs
  obtain ⟨p, _, rfl⟩ := List.mem_map.1 hs
  unfold stepOf
  split
  · exact Int.le_refl _
  · split
    · exact Int.le_refl _
    · exact Int.natCast_nonneg _
theorem getS_wt : ∀ (l : List Stp) (v x : Vu), (∀ s ∈ l, s.ok) → faultE v = 0 → getS l v = some x → x.wt ≤ v.wt
  | [], v, x, _, _, h => by injection h with h; subst h; exact Nat.le_refl _
  | s :: l, v, x, hs, hf, h => by
    rw [getS] at h
    split at h
    · rename_i y hy
      have h1 := follow_mem (hs s List.mem_cons_self) hf hy
      have := getS_wt l y x (fun t ht => hs t (List.mem_cons_of_mem _ ht)) h1.1 h
      omega
    · cases h
end
end Go.Proofs.YtjbgafbijamckaaGreatDoor
