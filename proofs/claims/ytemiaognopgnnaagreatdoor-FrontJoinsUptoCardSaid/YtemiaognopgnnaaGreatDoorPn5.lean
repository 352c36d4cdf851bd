/-
  conf.Print.
-/
import Derived.Test.YtemiaognopgnnaaGreatDoorPn4
namespace Go.Proofs.YtemiaognopgnnaaGreatDoor
open Go.RowKit
set_option linter.unusedVariables false
set_option linter.unusedSimpArgs false
namespace pn
open rp
theorem mkS_all (t : List UInt8) : mkS t.length (fun i => t.getD i 0) = ⟨t.toArray⟩ := by
  unfold mkS
  congr 2
  apply List.ext_getElem
  · simp
  · intro i h1 h2
    simp [List.getD, h2]
/-- The text of a table. -/
noncomputable def txtL (v : Vu) : List UInt8 := prB [] v.keys v.items
/-- What Print answers. -/
noncomputable def printR (v : Vu) : ByteArray × Int := if checkE v ≠ 0 then (⟨#[]⟩, checkE v) else if v.kind ≠ 6 then (⟨#[]⟩, 10) else if 50000 < (txtL v).length then (⟨#[]⟩, 4) else (⟨(txtL v).toArray⟩, 0)
theorem check_facts {v : Vu} (h : checkE v = 0) : faultE v = 0 ∧ cnt v ≤ 1000 ∧ lvl v ≤ 8 := by
  unfold checkE at h
  split at h
  · cases h
  · split at h
    · cases h
    · exact ⟨h, by omega, by omega⟩
theorem txt_len (v : Vu) (hv : v.i64) (hw : v.wt ≤ 5000000) (hl : lvl v ≤ 8) : (txtL v).length ≤ 1200000000 := by
  have hi : Vu.i64L v.items := by cases v; exact hv.2.2
  have h1 := prB_len [] v.keys v.items hi
  have h2 := wt_parts v
  have h3 := lvl_eq v
  have h4 : (([] : List UInt8).length + 3 * lvlL v.items + 201) * (Vu.wtL v.items + (v.keys.map fun s => s.size + 1).sum) ≤ 225 * 5000000 := Nat.mul_le_mul (by simp only [List.length_nil]; omega) (by omega)
  unfold txtL
  omega
section
variable (E : Env)
set_option maxRecDepth 100000
theorem printed_nil (hP : ∀ w, E.G w → P10 w) (v : Vu) (h6 : v.kind = 6) (hc : checkE v = 0) (hv : v.i64) (hw : v.wt ≤ 5000000) : SpH (cx Tryz.prog mixed tyT_ok E) 40 [.v (.slice none 0 0), encV v, dS ⟨#[]⟩] [] (.own 15 1 0 (txtL v).length) [(15, .row 5 (txtL v).length (rowB (txtL v)))] := by
  obtain ⟨hf, h1, h2⟩ := check_facts hc
  have hff := fault_facts hf
  have hil : v.items.length ≤ 1000000 := by have h1 := len_le_cntL v.items; have h2 := cnt_eq v; omega
  have hwb : (0 + 4 * lvl v + 206) * v.wt ≤ 238 * 5000000 := Nat.mul_le_mul (by omega) hw
  have hz : (⟨#[]⟩ : ByteArray).size = 0 := rfl
  have h := printed_l E 40 15 (by decide) v ⟨#[]⟩ [] 0 rfl (hff.2.2.1 h6) hv hil (by rw [hz]; simp only [List.length_nil]; omega) (fun x hx a' n hn hb' => printedValue_any E hP (SizeOf.sizeOf x + 1) x ⟨#[]⟩ a' n 23 31 (by decide) hn (by omega) (faultL_memP _ (fault_headP hf).2 x hx) (i64_mem hv hx) (by have := cnt_mem v.items x hx; have := cnt_eq v; omega) (by have := wt_le hx; omega) (by have h3 := lvl_mem v.items x hx; have h4 := lvl_eq v; rw [hz]; omega) hb')
  rw [List.nil_append] at h
  exact SpH.ofNil (by kernel_rfl) (by kernel_rfl) h
theorem print_sp (hP : ∀ w, E.G w → P10 w) (v : Vu) (hv : v.i64) (hw : v.wt ≤ 5000000) : Sp (cx Tryz.prog mixed tyT_ok E) 16 [encV v] (.tup [dS (printR v).1, i64 (printR v).2]) := by
  have h1 := check_sp E v (by have := cnt_le_wt v; omega)
  obtain ⟨r, hr⟩ : ∃ r, r = printR v := ⟨_, rfl⟩
  rw [← hr]
  unfold printR at hr
  by_cases hc : checkE v = 0
  · rw [if_neg (fun h => h hc)] at hr
    by_cases h6 : v.kind = 6
    · rw [if_neg (fun h => h h6)] at hr
      have h2 := printed_nil E hP v h6 hc hv hw
      have htl := txt_len v hv hw (check_facts hc).2.2
      have hmk := mkS_all (txtL v)
      generalize txtL v = t at h2 hr htl hmk
      rw [hc] at h1
      refine Sp.body Tryz.func16 (by kernel_rfl) rfl (by kernel_rfl) (by kernel_rfl) (by kernel_rfl) ?_
      repeat' first
        | refine Or.inr ⟨_, _, _, h2, by kernel_rfl, (by repeat' first | exact trivial | exact rfl | kernel_rfl | exact Dle.of_eq rfl | exact MLe.of_eq rfl | exact Dle.i (by omega) | exact Dle.i (by simp only [Int.toNat_natCast] at *; omega) | exact Dle.nil | exact Dle.rc Dle.nil | exact Option.some_ne_none _ | exact Or.inl rfl | exact Or.inr trivial | omega | (simp only [Int.toNat_natCast] at *; omega) | (intro _ _ _ _; exact Dle.of_eq rfl) | refine And.intro ?_ ?_), ?_⟩
        | (refine ⟨fun i => t.getD i 0, fun i hi => Dle.refl _ _, ?_⟩)
        | (refine codeW_cond rfl ?_; first | (refine condW_dec ?_ ?_ <;> intro _ <;> try (exfalso; omega)) | refine condW_not ?_ | (refine condW_bool ?_ ?_ <;> intro _ <;> try (exfalso; omega)))
        | (refine facW_intro ?_; intro _)
        | refine Or.inl ?_
        | ((conv => whnf); first | (refine condW_dec ?_ ?_ <;> intro _ <;> try (exfalso; omega)) | refine condW_not ?_ | (refine condW_bool ?_ ?_ <;> intro _ <;> try (exfalso; omega)) | (refine nbC_t (fun _ => ?_) ?_) | (refine nbC_f ?_ (fun _ => ?_)))
        | refine And.intro (by first | omega | (simp only [Int.toNat_natCast] at *; omega) | (simp only [Nat.reduceAdd, Int.cast_ofNat_Int, true_and, and_true]; omega)  | kernel_rfl) ?_
        | refine RegW.run ?_
        | refine ⟨_, h1, ?_⟩
        | fail
      all_goals first
        | (exfalso; omega)
        | (have e := hr.trans (if_pos (by omega)); rw [e]; exact Dle.refl _ _)
        | (have e := hr.trans (if_neg (by omega)); rw [e, ← hmk]; exact Dle.refl _ _)
        | trace_state
    · rw [if_pos h6] at hr
      subst hr
      rw [hc] at h1
      refine Sp.body Tryz.func16 (by kernel_rfl) rfl (by kernel_rfl) (by kernel_rfl) (by kernel_rfl) ?_
      repeat' first
        | (refine codeW_cond rfl ?_; first | (refine condW_dec ?_ ?_ <;> intro _ <;> try (exfalso; omega)) | refine condW_not ?_ | (refine condW_bool ?_ ?_ <;> intro _ <;> try (exfalso; omega)))
        | (refine facW_intro ?_; intro _)
        | refine Or.inl ?_
        | ((conv => whnf); first | (refine condW_dec ?_ ?_ <;> intro _ <;> try (exfalso; omega)) | refine condW_not ?_ | (refine condW_bool ?_ ?_ <;> intro _ <;> try (exfalso; omega)) | (refine nbC_t (fun _ => ?_) ?_) | (refine nbC_f ?_ (fun _ => ?_)))
        | refine And.intro (by first | omega | (simp only [Int.toNat_natCast] at *; omega) | (simp only [Nat.reduceAdd, Int.cast_ofNat_Int, true_and, and_true]; omega)  | kernel_rfl) ?_
        | refine RegW.run ?_
        | refine ⟨_, h1, ?_⟩
        | fail
      all_goals first
        | (exfalso; omega)
        | exact Dle.refl _ _
        | trace_state
  · rw [if_pos hc] at hr
    subst hr
    generalize checkE v = e at h1 hc
    refine Sp.body Tryz.func16 (by kernel_rfl) rfl (by kernel_rfl) (by kernel_rfl) (by kernel_rfl) ?_
    repeat' first
      | (refine codeW_cond rfl ?_; first | (refine condW_dec ?_ ?_ <;> intro _ <;> try (exfalso; omega)) | refine condW_not ?_ | (refine condW_bool ?_ ?_ <;> intro _ <;> try (exfalso; omega)))
      | (refine facW_intro ?_; intro _)
      | refine Or.inl ?_
      | ((conv => whnf); first | (refine condW_dec ?_ ?_ <;> intro _ <;> try (exfalso; omega)) | refine condW_not ?_ | (refine condW_bool ?_ ?_ <;> intro _ <;> try (exfalso; omega)) | (refine nbC_t (fun _ => ?_) ?_) | (refine nbC_f ?_ (fun _ => ?_)))
      | refine And.intro (by first | omega | (simp only [Int.toNat_natCast] at *; omega) | (simp only [Nat.reduceAdd, Int.cast_ofNat_Int, true_and, and_true]; omega)  | kernel_rfl) ?_
      | refine RegW.run ?_
      | refine ⟨_, h1, ?_⟩
      | fail
    all_goals first
      | (exfalso; omega)
      | exact Dle.refl _ _
      | trace_state
end
end pn
end Go.Proofs.YtemiaognopgnnaaGreatDoor
