/-
  conf.follow, get, Get; the reference's Step, Follow, GetOf.
-/
import Derived.Test.YtocehfhhmljejaaGreatDoorS3
namespace Go.Proofs.YtocehfhhmljejaaGreatDoor
open Go.RowKit
set_option linter.unusedVariables false
set_option linter.unusedSimpArgs false
theorem keysFrom_ok : ∀ (n : Nat) (l : List ByteArray) (k : Nat), l.length - k < n → keysFrom l k = 0 → ∀ i, k ≤ i → i < l.length → keyOkB (l.getD i ⟨#[]⟩) = true ∧ (0 < i → strLt (l.getD (i - 1) ⟨#[]⟩) (l.getD i ⟨#[]⟩) = true)
  | 0, l, k, h, _, i, _, _ => by omega
  | n + 1, l, k, h, h0, i, hi, hil => by
    have hk : k < l.length := by omega
    rw [keysFrom, if_pos hk] at h0
    split at h0
    · rename_i h1
      split at h0
      · cases h0
      · rename_i h2
        rcases Nat.lt_or_ge k i with h3 | h3
        · exact keysFrom_ok n l (k + 1) (by omega) h0 i (by omega) hil
        · obtain rfl : i = k := by omega
          refine ⟨h1, fun h4 => ?_⟩
          have h5 : ¬ (strLt (l.getD i ⟨#[]⟩) (l.getD (i - 1) ⟨#[]⟩) || decide (l.getD i ⟨#[]⟩ = l.getD (i - 1) ⟨#[]⟩)) = true := fun h => h2 ⟨h4, h⟩
          simp only [Bool.or_eq_true, decide_eq_true_eq, not_or] at h5
          exact strLt_total (by simpa using h5.1) h5.2
    · cases h0
theorem head_ok {v : Vu} (h : headE v = 0) : ¬ unusedP v ∧ keysFrom v.keys 0 = 0 := by
  unfold headE at h
  split at h
  · cases h
  · split at h
    · cases h
    · rename_i h1
      split at h
      · cases h
      · split at h
        · cases h
        · split at h
          · cases h
          · exact ⟨h1, h⟩
theorem fault_head {v : Vu} (h : faultE v = 0) : headE v = 0 ∧ faultL v.items = 0 := by
  rw [faultE_eq] at h
  split at h
  · rename_i h1
    exact ⟨h1, h⟩
  · rename_i h1
    exact absurd h h1
theorem faultL_mem : ∀ (l : List Vu), faultL l = 0 → ∀ x ∈ l, faultE x = 0
  | [], _, x, hx => by cases hx
  | a :: l, h, x, hx => by
    rw [faultL] at h
    split at h
    · rename_i h1
      rcases List.mem_cons.1 hx with rfl | hx
      · exact h1
      · exact faultL_mem l h x hx
    · rename_i h1
      exact absurd h h1
theorem fault_mem {v : Vu} (h : faultE v = 0) {k : Nat} (hk : k < v.items.length) : faultE (v.items.getD k .zero) = 0 := faultL_mem _ (fault_head h).2 _ (getD_mem _ _ _ hk)
theorem fault_keys {v : Vu} (h : faultE v = 0) : Srt v.keys ∧ (v.kind = 6 → v.keys.length = v.items.length) := by
  obtain ⟨h1, h2⟩ := head_ok (fault_head h).1
  refine ⟨srt_of fun k hk hk2 => (keysFrom_ok (v.keys.length + 1) v.keys 0 (by omega) h2 k (by omega) hk2).2 hk, fun h3 => ?_⟩
  unfold unusedP at h1
  omega
theorem check_ok {v : Vu} (h : checkE v = 0) : faultE v = 0 := by
  unfold checkE at h
  split at h
  · cases h
  · split at h
    · cases h
    · exact h
def Stp.ok (s : Stp) : Prop := 0 ≤ s.number
theorem has_lt {v : Vu} {k : ByteArray} (h : hasK v k = true) : findK v k < v.keys.length := by
  unfold hasK at h
  simp only [Bool.and_eq_true, decide_eq_true_eq] at h
  exact h.1
section
variable (E : Env)
set_option maxRecDepth 100000
end
end Go.Proofs.YtocehfhhmljejaaGreatDoor
