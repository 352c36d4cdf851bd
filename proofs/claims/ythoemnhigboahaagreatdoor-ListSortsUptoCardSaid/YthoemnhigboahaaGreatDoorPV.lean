/-
  api.Value and lists of strings and of values as arguments.
-/
import Derived.Test.YthoemnhigboahaaGreatDoorP
import Derived.Test.YthoemnhigboahaaGreatDoorQ6
namespace Go.Proofs.YthoemnhigboahaaGreatDoor
open Go.RowKit
set_option linter.unusedVariables false
set_option linter.unusedSimpArgs false
mutual
def Vu.wt : Vu → Nat
  | .mk _ _ _ t l ks => t.size + 1 + Vu.wtL l + (ks.map fun s => s.size + 1).sum
def Vu.wtL : List Vu → Nat
  | [] => 0
  | x :: r => Vu.wt x + Vu.wtL r
end
mutual
theorem cnt_le_wt : ∀ v : Vu, cnt v ≤ v.wt
  | .mk _ _ _ _ l _ => by have := cntL_le_wt l; simp only [cnt, Vu.wt]; omega
theorem cntL_le_wt : ∀ l : List Vu, cntL l ≤ Vu.wtL l
  | [] => by simp [cntL]
  | x :: r => by have := cnt_le_wt x; have := cntL_le_wt r; simp only [cntL, Vu.wtL]; omega
end
mutual
def Vu.i64 : Vu → Prop
  | .mk k _ i _ l _ => In64 k ∧ In64 i ∧ Vu.i64L l
def Vu.i64L : List Vu → Prop
  | [] => True
  | x :: r => Vu.i64 x ∧ Vu.i64L r
end
section
variable (E : Env)
theorem opn_strs {N : Nat} {t e : TypeId} (ht : (cx Tryz.prog mixed tyT_ok E).P.underlying t = some (.slice e)) (he : (cx Tryz.prog mixed tyT_ok E).P.underlying e = some .string) (hk : ((cx Tryz.prog mixed tyT_ok E).T e).known = true) (h1 : ((cx Tryz.prog mixed tyT_ok E).T e).size = 1) (h2 : ((cx Tryz.prog mixed tyT_ok E).T e).bytes = 16) :
    Opn (cx Tryz.prog mixed tyT_ok E) N t (fun ds n => ∃ l : List ByteArray, ds = [encStrs l] ∧ n = (l.map fun s => s.size + 1).sum) := by
  refine Opn.mono (Opn.le (opn_slice ht hk (opn_str he (N := N))) (Nat.le_succ _)) ?_
  rintro ds n ⟨l, hl, hb, rfl, rfl⟩
  have hex : ∃ l' : List ByteArray, l = l'.map fun s => ([.v (.string s)], s.size + 1) := by
    clear hb
    induction l with
    | nil => exact ⟨[], rfl⟩
    | cons x l ih =>
      obtain ⟨l', rfl⟩ := ih (fun y hy => hl y (List.mem_cons_of_mem _ hy))
      obtain ⟨⟨s, _, h3, h4⟩, _⟩ := hl x List.mem_cons_self
      exact ⟨s :: l', by rw [List.map_cons, ← h3, ← h4]⟩
  obtain ⟨l', rfl⟩ := hex
  refine ⟨_, _, ⟨l', rfl, rfl⟩, by rw [List.map_map]; exact Nat.le_refl _, ⟨?_, trivial⟩⟩
  rw [h1, h2]
  refine Dle.sl (by simp) (fun i j hi hj => Dle.of_eq ?_)
  obtain rfl : j = 0 := by omega
  have hi : i < l'.length := by simpa using hi
  simp [List.getD, hi]
theorem vals_of : ∀ (l : List (List DD × Nat)), (∀ x ∈ l, (∃ v : Vu, v.i64 ∧ x.1 = (encV v).cells ∧ v.wt ≤ x.2) ∧ x.1.length = 6) → ∃ vs : List Vu, Vu.i64L vs ∧ vs.length = l.length ∧ (∀ i, i < l.length → (l.getD i ([], 0)).1 = (encV (vs.getD i .zero)).cells) ∧ Vu.wtL vs ≤ (l.map (·.2)).sum
  | [], _ => ⟨[], trivial, rfl, fun i hi => by simp at hi, Nat.zero_le _⟩
  | x :: l, h => by
    obtain ⟨vs, h1, h2, h3, h4⟩ := vals_of l (fun y hy => h y (List.mem_cons_of_mem _ hy))
    obtain ⟨⟨v, h5, h6, h7⟩, _⟩ := h x List.mem_cons_self
    refine ⟨v :: vs, ⟨h5, h1⟩, by simp [h2], fun i hi => ?_, ?_⟩
    · match i, hi with
      | 0, _ => exact h6
      | i + 1, hi => exact h3 i (by simpa using hi)
    · simp only [Vu.wtL, List.map_cons, List.sum_cons]
      omega
theorem cell_eq (v : Vu) (j : Nat) (hj : j < 6) : (encV v).cells.getD j .opq = v.cell j := by
  match j, hj with
  | 0, _ => rfl
  | 1, _ => rfl
  | 2, _ => rfl
  | 3, _ => rfl
  | 4, _ => rfl
  | 5, _ => rfl
theorem opn_vals {N : Nat} (h : Opn (cx Tryz.prog mixed tyT_ok E) N 30 (fun ds n => ∃ v : Vu, v.i64 ∧ ds = (encV v).cells ∧ v.wt ≤ n)) :
    Opn (cx Tryz.prog mixed tyT_ok E) (N + 1) 22 (fun ds n => ∃ d : DD, ds = [d] ∧ ∃ l : List Vu, Vu.i64L l ∧ d = .rc (.vals l) ∧ Vu.wtL l ≤ n) := by
  refine Opn.mono (opn_slice (X := (cx Tryz.prog mixed tyT_ok E)) Tryz.underlying22 (by kernel_rfl) h) ?_
  rintro ds n ⟨l, hl, hb, rfl, rfl⟩
  obtain ⟨vs, h1, h2, h3, h4⟩ := vals_of l hl
  refine ⟨_, _, ⟨_, rfl, vs, h1, rfl, h4⟩, Nat.le_refl _, ⟨Dle.rc (X := (cx Tryz.prog mixed tyT_ok E)) ?_, trivial⟩⟩
  refine Dle.sl (X := (cx Tryz.prog mixed tyT_ok E)) (show l.length = vs.length from h2.symm) (fun i j hi hj => Dle.of_eq ?_)
  rw [h3 i hi]
  exact cell_eq _ _ hj
theorem opn_val : ∀ N, Opn (cx Tryz.prog mixed tyT_ok E) N 30 (fun ds n => ∃ v : Vu, v.i64 ∧ ds = (encV v).cells ∧ v.wt ≤ n)
  | 0 => opn_zero
  | N + 1 => by
    refine Opn.mono (opn_struct (X := (cx Tryz.prog mixed tyT_ok E)) (N := N) Tryz.underlying30 (by kernel_rfl) (by kernel_rfl) (by kernel_rfl) (Rs := [_, _, _, _, _, _])
      ⟨opn_int (X := (cx Tryz.prog mixed tyT_ok E)) Tryz.underlying3, opn_bool (X := (cx Tryz.prog mixed tyT_ok E)) Tryz.underlying4, opn_int (X := (cx Tryz.prog mixed tyT_ok E)) Tryz.underlying3, opn_str (X := (cx Tryz.prog mixed tyT_ok E)) Tryz.underlying9,
        Opn.le (opn_vals E (opn_val N)) (Nat.le_succ _), opn_strs E Tryz.underlying28 Tryz.underlying9 (by kernel_rfl) (by kernel_rfl) (by kernel_rfl), trivial⟩) ?_
    rintro ds n ⟨_, _, _, _, ⟨k, hk, rfl, rfl⟩, ⟨_, _, _, _, ⟨b, rfl, rfl⟩, ⟨_, _, _, _, ⟨i, hi, rfl, rfl⟩, ⟨_, _, _, _, ⟨t, ht, rfl, rfl⟩, ⟨_, _, _, _, ⟨_, rfl, l, hl, rfl, hw⟩, ⟨_, _, _, _, ⟨ks, rfl, rfl⟩, ⟨rfl, rfl⟩, rfl, rfl⟩, rfl, rfl⟩, rfl, rfl⟩, rfl, rfl⟩, rfl, rfl⟩, rfl, rfl⟩
    refine ⟨_, _, ⟨.mk k b i t l ks, ⟨hk, hi, hl⟩, rfl, Nat.le_refl _⟩, ?_, ⟨Dle.refl _ _, Dle.refl _ _, Dle.refl _ _, Dle.refl _ _, Dle.refl _ _, Dle.refl _ _, trivial⟩⟩
    simp only [Vu.wt]
    omega
end
end Go.Proofs.YthoemnhigboahaaGreatDoor
