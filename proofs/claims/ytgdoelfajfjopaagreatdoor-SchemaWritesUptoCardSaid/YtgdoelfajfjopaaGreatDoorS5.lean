/-
  conf.follow, get, Get; the reference's Step, Follow, GetOf.
-/
import Derived.Test.YtgdoelfajfjopaaGreatDoorS3
namespace Go.Proofs.YtgdoelfajfjopaaGreatDoor
open Go.RowKit
set_option linter.unusedVariables false
set_option linter.unusedSimpArgs false
/-- Keys without a fault are in order. -/
theorem keysFrom_ok : ∀ (n : Nat) (l : List ByteArray) (k : Nat), l.length - k < n → keysFrom l k = 0 → ∀ i, k ≤ i → i < l.length → keyOkB (l.getD i ⟨#[]⟩) = true ∧ (0 < i → strLt (l.getD (i - 1) ⟨#[]⟩) (l.getD i ⟨#[]⟩) = true)
  | 0, l, k, h, _, i, _, _ => by omega
  | n + 1, l, k, h, h0, i, hi, hil => by
    have hk : k < l.length := by omega
    rw [keysFrom, if_pos hk] at h0
    split at h0
    · rename_i h1
      split at h0
      · cases h0
      · rename_i h2
        rcases Nat.lt_or_ge k i with h3 | h3
        · exact keysFrom_ok n l (k + 1) (by omega) h0 i (by omega) hil
        · obtain rfl : i = k := by omega
          refine ⟨h1, fun h4 => ?_⟩
          have h5 : ¬ (strLt (l.getD i ⟨#[]⟩) (l.getD (i - 1) ⟨#[]⟩) || decide (l.getD i ⟨#[]⟩ = l.getD (i - 1) ⟨#[]⟩)) = true := fun h => h2 ⟨h4, h⟩
          simp only [Bool.or_eq_true, decide_eq_true_eq, not_or] at h5
          exact strLt_total (by simpa using h5.1) h5.2
    · cases h0
theorem head_ok {v : Vu} (h : headE v = 0) : ¬ unusedP v ∧ keysFrom v.keys 0 = 0 := by
  unfold headE at h
  split at h
  · cases h
  · split at h
    · cases h
    · rename_i h1
      split at h
      · cases h
      · split at h
        · cases h
        · split at h
          · cases h
          · exact ⟨h1, h⟩
theorem fault_head {v : Vu} (h : faultE v = 0) : headE v = 0 ∧ faultL v.items = 0 := by
  rw [faultE_eq] at h
  split at h
  · rename_i h1
    exact ⟨h1, h⟩
  · rename_i h1
    exact absurd h h1
theorem faultL_mem : ∀ (l : List Vu), faultL l = 0 → ∀ x ∈ l, faultE x = 0
  | [], _, x, hx => by cases hx
  | a :: l, h, x, hx => by
    rw [faultL] at h
    split at h
    · rename_i h1
      rcases List.mem_cons.1 hx with rfl | hx
      · exact h1
      · exact faultL_mem l h x hx
    · rename_i h1
      exact absurd h h1
theorem fault_mem {v : Vu} (h : faultE v = 0) {k : Nat} (hk : k < v.items.length) : faultE (v.items.getD k .zero) = 0 := faultL_mem _ (fault_head h).2 _ (getD_mem _ _ _ hk)
theorem fault_keys {v : Vu} (h : faultE v = 0) : Srt v.keys ∧ (v.kind = 6 → v.keys.length = v.items.length) := by
  obtain ⟨h1, h2⟩ := head_ok (fault_head h).1
  refine ⟨srt_of fun k hk hk2 => (keysFrom_ok (v.keys.length + 1) v.keys 0 (by omega) h2 k (by omega) hk2).2 hk, fun h3 => ?_⟩
  unfold unusedP at h1
  omega
theorem check_ok {v : Vu} (h : checkE v = 0) : faultE v = 0 := by
  unfold checkE at h
  split at h
  · cases h
  · split at h
    · cases h
    · exact h
/-- The item to which a step, a part leads. -/
def followS (v : Vu) (s : Stp) : Option Vu :=
  if s.key = ⟨#[]⟩ then (if v.kind = 5 ∧ s.number < v.items.length then some (v.items.getD s.number.toNat .zero) else none)
  else if v.kind = 6 ∧ hasK v s.key = true then some (v.items.getD (findK v s.key) .zero) else none
def getS : List Stp → Vu → Option Vu
  | [], v => some v
  | s :: r, v => match followS v s with
    | some x => getS r x
    | none => none
theorem getS_drop {l : List Stp} {k : Nat} {v : Vu} (h : k < l.length) : getS (l.drop k) v = match followS v (l.getD k default) with | some x => getS (l.drop (k + 1)) x | none => none := by
  rw [drop_cons l default k h]; rfl
theorem getS_end {l : List Stp} {k : Nat} {v : Vu} (h : l.length ≤ k) : getS (l.drop k) v = some v := by rw [List.drop_of_length_le h]; rfl
def Stp.ok (s : Stp) : Prop := 0 ≤ s.number
theorem follow_mem {v x : Vu} {s : Stp} (hs : s.ok) (hf : faultE v = 0) (h : followS v s = some x) : faultE x = 0 ∧ x.wt ≤ v.wt := by
  have hw := wtL_le_wt v
  unfold followS at h
  unfold Stp.ok at hs
  split at h
  · split at h
    · rename_i h2
      injection h with h
      subst h
      have hl : s.number.toNat < v.items.length := by omega
      have := wt_mem _ _ (getD_mem v.items .zero _ hl)
      exact ⟨fault_mem hf hl, by omega⟩
    · cases h
  · split at h
    · rename_i h2
      injection h with h
      subst h
      have hk := h2.2
      unfold hasK at hk
      simp only [Bool.and_eq_true, decide_eq_true_eq] at hk
      have hl : findK v s.key < v.items.length := by have := (fault_keys hf).2 h2.1; omega
      have := wt_mem _ _ (getD_mem v.items .zero _ hl)
      exact ⟨fault_mem hf hl, by omega⟩
    · cases h
theorem has_lt {v : Vu} {k : ByteArray} (h : hasK v k = true) : findK v k < v.keys.length := by
  unfold hasK at h
  simp only [Bool.and_eq_true, decide_eq_true_eq] at h
  exact h.1
section
variable (E : Env)
set_option maxRecDepth 100000
theorem zeroC : Dle (cx Tryz.prog mixed tyT_ok E) (.agg [i64 0, dB false, i64 0, dS ⟨#[]⟩, .v (.slice none 0 0), .v (.slice none 0 0)]) (encV .zero) :=
  Dle.agg ⟨Dle.refl _ _, Dle.refl _ _, Dle.refl _ _, Dle.refl _ _, Dle.rc (X := (cx Tryz.prog mixed tyT_ok E)) Dle.nil, Dle.nil (X := (cx Tryz.prog mixed tyT_ok E)), trivial⟩
/-- What Get answers. -/
def getR (v : Vu) (s : ByteArray) : Vu × Int :=
  if checkE v ≠ 0 then (.zero, checkE v) else if routeOk false s = false then (.zero, 3) else match getS ((partsR s).map stepOf) v with
    | some x => (x, 0)
    | none => (.zero, 7)
theorem steps_ok (l : List ByteArray) : ∀ s ∈ l.map stepOf, s.ok := by
  intro s hs
  obtain ⟨p, _, rfl⟩ := List.mem_map.1 hs
  unfold stepOf
  split
  · exact Int.le_refl _
  · split
    · exact Int.le_refl _
    · exact Int.natCast_nonneg _
theorem getS_wt : ∀ (l : List Stp) (v x : Vu), (∀ s ∈ l, s.ok) → faultE v = 0 → getS l v = some x → x.wt ≤ v.wt
  | [], v, x, _, _, h => by injection h with h; subst h; exact Nat.le_refl _
  | s :: l, v, x, hs, hf, h => by
    rw [getS] at h
    split at h
    · rename_i y hy
      have h1 := follow_mem (hs s List.mem_cons_self) hf hy
      have := getS_wt l y x (fun t ht => hs t (List.mem_cons_of_mem _ ht)) h1.1 h
      omega
    · cases h
end
end Go.Proofs.YtgdoelfajfjopaaGreatDoor
