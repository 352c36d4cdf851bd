/-
  Conditions: the reference's eachCond, CondFault. The package variable condWords.
-/
import Derived.Test.YtkjflkbjepdaaaaGreatDoorW4
namespace Go.Proofs.YtkjflkbjepdaaaaGreatDoor
open Go.RowKit
set_option linter.unusedVariables false
set_option linter.unusedSimpArgs false
/-- What package-level variables hold: the words that no route may be. -/
def wordsGv (g : Nat) : DD := match Nat.beq g 0 with | true => .ref 1 (fun _ => encStrs resWords) | false => .opq
def wEnv (E : Env) (hg : ∀ w, E.G w → ∀ g, Rep view E.MG w b0 (wordsGv g) (.pointer (some ⟨g, 0, none⟩))) : Env := { E with gv := wordsGv, gok := hg }
section
set_option maxRecDepth 100000
set_option maxHeartbeats 8000000 in
theorem eachCond_sp (E0 : Env) (hg : ∀ w, E0.G w → ∀ g, Rep view E0.MG w b0 (wordsGv g) (.pointer (some ⟨g, 0, none⟩))) (E : Env) (hE : E = wEnv E0 hg) (hML : ∀ w, E.G w → ML w) :
    ∀ (N : Nat) (c : Cd), SizeOf.sizeOf c < N → c.wt ≤ 100000000 → Sp (cx Tryz.prog mixed tyT_ok E) 33 [encC c] (i64 (condE c))
  | 0, c, h, _ => by omega
  | N + 1, c, h, hw => by
    have hwe := c.wt_eq
    have ih := fun x (hx : x ∈ c.kids) => eachCond_sp E0 hg E hE hML N x (by have := kids_lt c x hx; omega) (by have := Cd.wt_mem c.kids x hx; omega)
    have hk := containsK_sp E c c.kids
    have hz := sameZero_sp E c.value
    have hrp := routeParts_sp E hML c.route false (by omega)
    have hcw := containsW_sp E c.route
    have hcc := confCheck_sp E c.value (by have := cnt_le_wt c.value; omega)
    have hvf := valueFault_sp2 E c.op c.value
    obtain ⟨r, hr⟩ : ∃ r, r = condE c := ⟨_, rfl⟩
    rw [← hr]
    rw [condE_eq] at hr
    unfold condH condR condF isRouteB at hr
    generalize anyK c.op c.kids 0 = ak at hr hk
    generalize routeOk false c.route = rk at hr hrp
    generalize resB c.route = rs at hr hcw
    generalize checkE c.value = e at hr hcc
    generalize wrongB c.op c.value = wr at hr hvf
    generalize hL : condL c.kids = L at hr
    subst hE
    refine Sp.body Tryz.func33 (by kernel_rfl) rfl (by kernel_rfl) (by kernel_rfl) (by kernel_rfl) ?_
    repeat' first
      | (refine facW_intro ?_; intro _)
      | refine Or.inl ?_
      | ((conv => whnf); first | (refine condW_dec ?_ ?_ <;> intro _ <;> try (exfalso; omega)) | refine condW_not ?_ | (refine condW_bool ?_ ?_ <;> intro _ <;> try (exfalso; omega)) | (refine nbC_t (fun _ => ?_) ?_) | (refine nbC_f ?_ (fun _ => ?_)))
      | refine And.intro (by first | omega | (simp only [Int.toNat_natCast] at *; omega) | (simp only [Nat.reduceAdd, Int.cast_ofNat_Int, true_and, and_true]; omega) | kernel_rfl) ?_
      | refine RegW.run ?_
      | refine ⟨_, hk, ?_⟩
      | refine ⟨_, hz, ?_⟩
      | refine ⟨_, hrp, ?_⟩
      | refine ⟨_, hcw, ?_⟩
      | refine ⟨_, hcc, ?_⟩
      | refine ⟨_, hvf, ?_⟩
      | fail
    all_goals first
      | exact Dle.i (by rw [hr]; grind)
      | skip
    all_goals
      have hr : r = condL c.kids := by rw [hr, hL]; grind
      refine ⟨Nat, fun k => [(121, i64 k)], fun k => [], [], fun k => [], fun k => k ≤ c.kids.length ∧ r = condL (c.kids.drop k), fun k => c.kids.length - k, ⟨0, ⟨by omega, hr⟩, ⟨[], ⟨by kernel_rfl, by kernel_rfl, by kernel_rfl, by kernel_rfl, by kernel_rfl, by kernel_rfl, by kernel_rfl⟩, (by repeat' first | exact trivial | exact rfl | kernel_rfl | exact Dle.of_eq rfl | exact MLe.of_eq rfl | exact Dle.i (by omega) | exact Dle.i (by simp only [Int.toNat_natCast] at *; omega) | exact Dle.nil | exact Dle.rc Dle.nil | exact Option.some_ne_none _ | exact Or.inl rfl | exact Or.inr trivial | omega | (simp only [Int.toNat_natCast] at *; omega) | (intro _ _ _ _; exact Dle.of_eq rfl) | refine And.intro ?_ ?_)⟩⟩, fun k hk => ?_⟩
      obtain ⟨hk, hK⟩ := hk
      by_cases hlt : k < c.kids.length
      · rw [condL_drop hlt] at hK
        have hc := ih _ (getD_mem c.kids .zero k hlt)
        generalize condE (c.kids.getD k .zero) = q at hc hK
        repeat' first
          | (refine facW_intro ?_; intro _)
          | refine Or.inl ?_
          | ((conv => whnf); first | (refine condW_dec ?_ ?_ <;> intro _ <;> try (exfalso; omega)) | refine condW_not ?_ | (refine condW_bool ?_ ?_ <;> intro _ <;> try (exfalso; omega)) | (refine nbC_t (fun _ => ?_) ?_) | (refine nbC_f ?_ (fun _ => ?_)))
          | refine And.intro (by first | omega | (simp only [Int.toNat_natCast] at *; omega) | (simp only [Nat.reduceAdd, Int.cast_ofNat_Int, true_and, and_true]; omega) | kernel_rfl) ?_
          | refine RegW.run ?_
          | refine ⟨_, hc, ?_⟩
          | fail
        all_goals first
          | (rename_i h
             exact ⟨k + 1, ⟨by omega, by rw [hK, if_pos h]⟩, ⟨[], ⟨by kernel_rfl, by kernel_rfl, by kernel_rfl, by kernel_rfl, by kernel_rfl, by kernel_rfl, by kernel_rfl⟩, (by repeat' first | exact trivial | exact rfl | kernel_rfl | exact Dle.of_eq rfl | exact MLe.of_eq rfl | exact Dle.i (by omega) | exact Dle.i (by simp only [Int.toNat_natCast] at *; omega) | exact Dle.nil | exact Dle.rc Dle.nil | exact Option.some_ne_none _ | exact Or.inl rfl | exact Or.inr trivial | omega | (simp only [Int.toNat_natCast] at *; omega) | (intro _ _ _ _; exact Dle.of_eq rfl) | refine And.intro ?_ ?_)⟩, by first | omega | (dsimp only; omega)⟩)
          | (rename_i h
             exact Dle.i (by rw [hK, if_neg h]))
      · repeat' first
          | (refine facW_intro ?_; intro _)
          | refine Or.inl ?_
          | ((conv => whnf); first | (refine condW_dec ?_ ?_ <;> intro _ <;> try (exfalso; omega)) | refine condW_not ?_ | (refine condW_bool ?_ ?_ <;> intro _ <;> try (exfalso; omega)) | (refine nbC_t (fun _ => ?_) ?_) | (refine nbC_f ?_ (fun _ => ?_)))
          | refine And.intro (by first | omega | (simp only [Int.toNat_natCast] at *; omega) | (simp only [Nat.reduceAdd, Int.cast_ofNat_Int, true_and, and_true]; omega) | kernel_rfl) ?_
          | refine RegW.run ?_
          | fail
        exact Dle.i (by rw [hK, condL_end (by omega)])
theorem refCondFault_sp (E0 : Env) (hg : ∀ w, E0.G w → ∀ g, Rep view E0.MG w b0 (wordsGv g) (.pointer (some ⟨g, 0, none⟩))) (E : Env) (hE : E = wEnv E0 hg) (hML : ∀ w, E.G w → ML w) (c : Cd) (hw : c.wt ≤ 100000000) : Sp (cx Tryz.prog mixed tyT_ok E) 13 [encC c] (i64 (condCheck c)) := by
  have hcw := ccnt_le_wt c
  have hl := clvl_le_cnt c
  have h1 := condsOf_sp E _ c (Nat.lt_succ_self _) (by omega)
  have h2 := eachCond_sp E0 hg E hE hML _ c (Nat.lt_succ_self _) hw
  refine Sp.body Tryz.func13 (by kernel_rfl) rfl (by kernel_rfl) (by kernel_rfl) (by kernel_rfl) ?_
  repeat' first
    | (refine facW_intro ?_; intro _)
    | refine Or.inl ?_
    | ((conv => whnf); first | (refine condW_dec ?_ ?_ <;> intro _) | refine condW_not ?_ | (refine condW_bool ?_ ?_ <;> intro _) | (refine nbC_t (fun _ => ?_) ?_) | (refine nbC_f ?_ (fun _ => ?_)))
    | refine And.intro (by first | omega | (simp only [Int.toNat_natCast] at *; omega) | (simp only [Nat.reduceAdd, Int.cast_ofNat_Int, true_and, and_true]; omega) | kernel_rfl) ?_
    | refine RegW.run ?_
    | refine ⟨_, h1, ?_⟩
    | refine ⟨_, h2, ?_⟩
    | fail
  all_goals exact Dle.i (by unfold condCheck; grind)
end
end Go.Proofs.YtkjflkbjepdaaaaGreatDoor
