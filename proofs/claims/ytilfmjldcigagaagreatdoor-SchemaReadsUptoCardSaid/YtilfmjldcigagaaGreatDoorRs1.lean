/-
  A schema's value, the program: item, fieldKind.
-/
import Derived.Test.YtilfmjldcigagaaGreatDoorRs0
namespace Go.Proofs.YtilfmjldcigagaaGreatDoor
open Go.RowKit
set_option linter.unusedVariables false
set_option linter.unusedSimpArgs false
namespace rs
/-- The names of kinds, in both packages. -/
def namesGv (g : Nat) : DD := match Nat.beq g 1 with | true => .ref 1 (fun _ => encStrs names) | false => match Nat.beq g 0 with | true => .ref 1 (fun _ => encStrs names) | false => .opq
def nEnv (E : Env) (hg : ∀ w, E.G w → ∀ g, Rep view E.MG w b0 (namesGv g) (.pointer (some ⟨g, 0, none⟩))) : Env := { E with gv := namesGv, gok := hg }
theorem item_lt {v : Vu} (hf : faultE v = 0) {k : ByteArray} (h : hasK v k = true) : findK v k < v.items.length := by
  obtain ⟨h1, h2⟩ := has_key h
  obtain ⟨_, h3⟩ := fault_keys hf
  by_cases h6 : v.kind = 6
  · rw [← h3 h6]; exact h1
  · have h4 := (head_ok (fault_head hf).1).1
    have : v.keys.length = 0 := by
      unfold unusedP at h4
      grind
    omega
section
variable (E : Env)
set_option maxRecDepth 100000
theorem item_sp (v : Vu) (k : ByteArray) (hf : faultE v = 0) (hb : v.keys.length ≤ 1000000000000) : Sp (cx Tryz.prog mixed tyT_ok E) 13 [encV v, dS k] (.tup [encV (itemK v k), dB (hasK v k)]) := by
  have h1 := find_sp E v k hb
  have hlt := @item_lt v hf k
  unfold itemK getK
  generalize hasK v k = b at h1 hlt
  cases b
  · refine Sp.body Tryz.func13 (by kernel_rfl) rfl (by kernel_rfl) (by kernel_rfl) (by kernel_rfl) ?_
    repeat' first
      | (refine facW_intro ?_; intro _)
      | refine Or.inl ?_
      | ((conv => whnf); first | (refine condW_dec ?_ ?_ <;> intro _ <;> try (exfalso; omega)) | refine condW_not ?_ | (refine condW_bool ?_ ?_ <;> intro _ <;> try (exfalso; omega)) | (refine nbC_t (fun _ => ?_) ?_) | (refine nbC_f ?_ (fun _ => ?_)))
      | refine And.intro (by first | omega | (simp only [Int.toNat_natCast] at *; omega) | (simp only [Nat.reduceAdd, Int.cast_ofNat_Int, true_and, and_true]; omega) | kernel_rfl) ?_
      | refine RegW.run ?_
      | refine ⟨_, h1, ?_⟩
      | fail
    all_goals first
      | exact Dle.tup (X := (cx Tryz.prog mixed tyT_ok E)) ⟨zeroC E, Dle.refl _ _, trivial⟩
      | trace_state
  · have hlt := hlt rfl
    refine Sp.body Tryz.func13 (by kernel_rfl) rfl (by kernel_rfl) (by kernel_rfl) (by kernel_rfl) ?_
    repeat' first
      | (refine facW_intro ?_; intro _)
      | refine Or.inl ?_
      | ((conv => whnf); first | (refine condW_dec ?_ ?_ <;> intro _ <;> try (exfalso; omega)) | refine condW_not ?_ | (refine condW_bool ?_ ?_ <;> intro _ <;> try (exfalso; omega)) | (refine nbC_t (fun _ => ?_) ?_) | (refine nbC_f ?_ (fun _ => ?_)))
      | refine And.intro (by first | omega | (simp only [Int.toNat_natCast] at *; omega) | (simp only [Nat.reduceAdd, Int.cast_ofNat_Int, true_and, and_true]; omega) | kernel_rfl) ?_
      | refine RegW.run ?_
      | refine ⟨_, h1, ?_⟩
      | fail
    all_goals first
      | exact Dle.tup (X := (cx Tryz.prog mixed tyT_ok E)) ⟨Dle.refl _ _, Dle.refl _ _, trivial⟩
      | trace_state
theorem fieldKind_sp (k : ByteArray) : Sp (cx Tryz.prog mixed tyT_ok E) 56 [dS k] (i64 (fk k)) := by
  refine Sp.body Tryz.func56 (by kernel_rfl) rfl (by kernel_rfl) (by kernel_rfl) (by kernel_rfl) ?_
  repeat' first
    | (refine facW_intro ?_; intro _)
    | refine Or.inl ?_
    | ((conv => whnf); first | (refine condW_dec ?_ ?_ <;> intro _ <;> try (exfalso; omega)) | refine condW_not ?_ | (refine condW_bool ?_ ?_ <;> intro _ <;> try (exfalso; omega)) | (refine nbC_t (fun _ => ?_) ?_) | (refine nbC_f ?_ (fun _ => ?_)))
    | refine And.intro (by first | omega | (simp only [Int.toNat_natCast] at *; omega) | (simp only [Nat.reduceAdd, Int.cast_ofNat_Int, true_and, and_true]; omega) | kernel_rfl) ?_
    | refine RegW.run ?_
    | fail
  all_goals first
    | exact Dle.i (by unfold fk; grind)
    | trace_state
theorem bo_t {p : Prop} {r : Bool} (hr : r = true ↔ p) (h : p) : true = r := (hr.2 h).symm
theorem bo_f {p : Prop} {r : Bool} (hr : r = true ↔ p) (h : ¬ p) : false = r := by
  cases r
  · rfl
  · exact absurd (hr.1 rfl) h
theorem bad_nil : badStr ⟨#[]⟩ = false := by
  unfold badStr
  rfl
theorem zero_fault : faultE Vu.zero = 0 := by
  have h : headE Vu.zero = 0 := by
    unfold headE
    rw [if_neg (by decide), if_neg (by unfold unusedP; decide), if_neg (by intro h; exact absurd h.1 (by decide)), if_neg (by decide), if_neg (by rw [show Vu.zero.text = ⟨#[]⟩ from rfl, bad_nil]; decide), keysFrom_end (by decide)]
  rw [faultE_eq, if_pos h]
  simp [faultL, Vu.zero, Vu.items]
theorem item_fault {v : Vu} (hf : faultE v = 0) (k : ByteArray) : faultE (itemK v k) = 0 := by
  unfold itemK getK
  cases h : hasK v k
  · rw [if_neg (by decide)]; exact zero_fault
  · rw [if_pos rfl]; exact fault_mem hf (item_lt hf h)
theorem item_wt {v : Vu} (hf : faultE v = 0) (k : ByteArray) : (itemK v k).wt ≤ v.wt + 1 := by
  unfold itemK getK
  cases h : hasK v k
  · rw [if_neg (by decide)]
    exact Nat.le_add_left _ _
  · rw [if_pos rfl]
    have h1 := wt_mem v.items _ (getD_mem v.items .zero (findK v k) (item_lt hf h))
    have h2 := wtL_le_wt v
    show (v.items.getD (findK v k) .zero).wt ≤ _
    omega
end
end rs
end Go.Proofs.YtilfmjldcigagaaGreatDoor
