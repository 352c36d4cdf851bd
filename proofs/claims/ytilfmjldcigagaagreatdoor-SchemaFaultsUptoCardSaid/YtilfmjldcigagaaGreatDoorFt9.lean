/-
  Faults of a value by a schema: the reference's FaultsOf.
-/
import Derived.Test.YtilfmjldcigagaaGreatDoorFt2
import Derived.Test.YtilfmjldcigagaaGreatDoorFt6
import Derived.Test.YtilfmjldcigagaaGreatDoorFt6a
namespace Go.Proofs.YtilfmjldcigagaaGreatDoor
open Go.RowKit
set_option linter.unusedVariables false
set_option pp.maxSteps 300
set_option linter.unusedSimpArgs false
namespace ft
/-- Faults by the first k of what is reached. -/
def inP (f : Fd) (R : List Rch) (k : Nat) : List Flt := (R.take k).flatMap (rF f)
theorem inP_zero (f : Fd) (R : List Rch) : inP f R 0 = [] := rfl
theorem inP_succ {f : Fd} {R : List Rch} {k : Nat} (h : k < R.length) : inP f R (k + 1) = inP f R k ++ rF f (R.getD k default) := by
  unfold inP
  rw [take_snoc R default k h, List.flatMap_append]
  simp
theorem inP_all (f : Fd) (R : List Rch) {k : Nat} (h : R.length ≤ k) : inP f R k = R.flatMap (rF f) := by unfold inP; rw [List.take_of_length_le h]
theorem inP_len (f : Fd) (R : List Rch) (k : Nat) : (inP f R k).length ≤ 2 * R.length := by
  have := flat_len (rF f) 2 (R.take k) (fun x _ => rF_len f x)
  have h2 : (R.take k).length ≤ R.length := by rw [List.length_take]; omega
  unfold inP
  omega
/-- The cases of bounds. -/
theorem bound_cases (f : Fd) (r : ByteArray) (m : Option Int) :
    (boundO f r m = [] ∧ ∀ n b, (n, b) = (m.getD 0, m.isSome) → (f.bounded = true → b = true → f.lo ≤ n ∧ n ≤ f.hi)) ∨
    (boundO f r m = [(r, 3)] ∧ f.bounded = true ∧ m.isSome = true ∧ m.getD 0 < f.lo) ∨
    (boundO f r m = [(r, 4)] ∧ f.bounded = true ∧ m.isSome = true ∧ ¬ m.getD 0 < f.lo ∧ f.hi < m.getD 0) := by
  cases m with
  | none => exact .inl ⟨rfl, fun n b h _ hb => by injection h with h1 h2; rw [hb] at h2; cases h2⟩
  | some n =>
    by_cases hb : f.bounded = true
    · by_cases h1 : n < f.lo
      · exact .inr (.inl ⟨boundO_low hb h1, hb, rfl, h1⟩)
      · by_cases h2 : f.hi < n
        · exact .inr (.inr ⟨boundO_high hb h1 h2, hb, rfl, h1, h2⟩)
        · refine .inl ⟨boundO_in hb h1 h2, fun n' b h _ _ => ?_⟩
          injection h with h3 h4
          have h3 : n' = n := h3
          omega
    · refine .inl ⟨boundO_off (by simpa using hb), fun n' b h hb' _ => absurd hb' hb⟩
section
variable (E : Env)
set_option maxRecDepth 100000
theorem row_q2 (l : List Flt) (q r : Flt) (cs ds : List DD) (hcs : cs = [dS q.1, i64 q.2]) (hds : ds = [dS r.1, i64 r.2]) (i j : Nat) (hi : i < l.length + 1 + 1) (hj : j < 2) : Dle (cx Tryz.prog mixed tyT_ok E) (if i < l.length + 1 then (if i < l.length then rowQ l i j else cs.getD ((i - l.length + 0) * 2 + j) .opq) else ds.getD ((i - (l.length + 1) + 0) * 2 + j) .opq) (rowQ (l ++ [q] ++ [r]) i j) := by
  have hl : (l ++ [q]).length = l.length + 1 := by simp
  have h2 := row_q E (l ++ [q]) r ds hds i j (by omega) hj
  rw [hl] at h2
  refine Dle.trans ?_ h2
  by_cases h : i < l.length + 1
  · rw [if_pos h, if_pos h]
    exact row_q E l q cs hcs i j h hj
  · rw [if_neg h, if_neg h]
    exact Dle.refl _ _
set_option maxHeartbeats 16000000 in
theorem faultsOf_sp (hML : ∀ w, E.G w → ML w) (hP : ∀ w, E.G w → P10 w) (l : List Fd) (b : Bool) (v : Vu) (hl : fdOk l) (hlen : l.length ≤ 1000000000) (hw : v.wt ≤ 5000000) : Sp (cx Tryz.prog mixed tyT_ok E) 9 [.agg [encFs l, dB b], encV v] (.tup [encQ (faultsE l b v).1, i64 (faultsE l b v).2]) := by
  have hcw := cnt_le_wt v
  have h1 := schemaFault_sp E hML l b hl hlen
  have h2 := confCheck_sp E v (by omega)
  obtain ⟨q, hq⟩ : ∃ q, q = faultsE l b v := ⟨_, rfl⟩
  rw [← hq]
  unfold faultsE at hq
  by_cases hs : schemaE l = 0
  · rw [if_neg (by rw [hs]; decide)] at hq
    by_cases h0 : checkE v = 0
    · rw [if_neg (by rw [h0]; decide)] at hq
      obtain ⟨hl1, hl2⟩ := schema_ok hs
      have hc : cnt v ≤ 1000 := by unfold checkE at h0; grind
      have hf := check_ok h0
      have hil := len_le_cntL v.items
      have hcv := cnt_eq v
      rw [hs] at h1
      rw [h0] at h2
      have hOL := fun k => outP_max (l := l) (k := k) hf hc hl1
      have hR2 := refRoutes_sp E hP _ v ⟨#[]⟩ (Nat.lt_succ_self _) hf (by omega) (by omega) (by show 0 + _ ≤ _; omega)
      have hrl := rts_len v ⟨#[]⟩
      have hrs := fun s (h : s ∈ rts v ⟨#[]⟩) => rts_size _ v ⟨#[]⟩ s (Nat.lt_succ_self _) hf (by omega) (by omega) h
      unfold allF at hq
      generalize rts v ⟨#[]⟩ = rs at hq hR2 hrl hrs
      have hUL := fun k => unkP_len l rs k
      refine Sp.body Tryz.func9 (by kernel_rfl) rfl (by kernel_rfl) (by kernel_rfl) (by kernel_rfl) ?_
      repeat' first
        | (refine codeW_cond rfl ?_; first | (refine condW_dec ?_ ?_ <;> intro _ <;> try (exfalso; omega)) | refine condW_not ?_ | (refine condW_bool ?_ ?_ <;> intro _ <;> try (exfalso; omega)))
        | (refine facW_intro ?_; intro _)
        | refine Or.inl ?_
        | ((conv => whnf); first | (refine condW_dec ?_ ?_ <;> intro _ <;> try (exfalso; omega)) | refine condW_not ?_ | (refine condW_bool ?_ ?_ <;> intro _ <;> try (exfalso; omega)) | (refine nbC_t (fun _ => ?_) ?_) | (refine nbC_f ?_ (fun _ => ?_)))
        | refine And.intro (by first | omega | (simp only [Int.toNat_natCast] at *; omega) | (simp only [Nat.reduceAdd, Int.cast_ofNat_Int, true_and, and_true]; omega) | kernel_rfl) ?_
        | refine RegW.run ?_
        | refine ⟨_, h1, ?_⟩
        | refine ⟨_, h2, ?_⟩
        | fail
      all_goals try (exfalso; rename_i h; exact h rfl)
      refine ⟨Nat, fun k => [(30, i64 k), (8, .own 30 2 0 (outP l v k).length)], fun k => [], [2, 3], fun k => [(30, 95, (outP l v k).length, rowQ (outP l v k))], fun k => k ≤ l.length, fun k => l.length - k, ⟨0, by omega, ⟨[(30, none)], ⟨by kernel_rfl, by kernel_rfl, by kernel_rfl, by kernel_rfl, by kernel_rfl, by kernel_rfl, by kernel_rfl⟩, (by repeat' first | exact trivial | exact rfl | kernel_rfl | exact Dle.of_eq rfl | exact MLe.of_eq rfl | exact Dle.i (by omega) | exact Dle.i (by simp only [Int.toNat_natCast] at *; omega) | exact Dle.nil | exact Dle.rc Dle.nil | exact Option.some_ne_none _ | exact Or.inl rfl | exact Or.inr trivial | omega | (simp only [Int.toNat_natCast] at *; omega) | (intro _ _ _ _; exact Dle.of_eq rfl) | refine And.intro ?_ ?_)⟩⟩, fun k hk => ?_⟩
      have hk : k ≤ l.length := hk
      by_cases hlt : k < l.length
      · obtain ⟨f1, f2, f3, f4⟩ := hl2 _ (getD_mem l default k hlt)
        have f5 : (pcs (l.getD k default).route dot).length ≤ (l.getD k default).route.size + 1 := pcs_len_le _
        have g1 := hOL k
        have hsp := split_sp E hML (l.getD k default).route dot (by omega) (by decide)
        have hre := reach_any E hP (pcs (l.getD k default).route dot) v ⟨#[]⟩ f4 hf hc (by omega) (by show 0 + _ + _ ≤ _; omega)
        have hrn := rch_len (pcs (l.getD k default).route dot) v ⟨#[]⟩ hf
        have e2 := outP_succ (v := v) hlt
        unfold walkF at e2
        generalize rch (pcs (l.getD k default).route dot) v ⟨#[]⟩ = R at hre hrn e2
        have hre : Sp (cx Tryz.prog mixed tyT_ok E) 47 [encV v, encStrs (pcs (l.getD k default).route dot), dS ⟨#[]⟩] (.sl 8 112 R.length (rowR R)) := hre
        have hz0 : outP l v k ++ inP (l.getD k default) R 0 = outP l v k := List.append_nil _
        have hz : (outP l v k).length = (outP l v k ++ inP (l.getD k default) R 0).length := by rw [hz0]
        repeat' first
          | (refine codeW_cond rfl ?_; first | (refine condW_dec ?_ ?_ <;> intro _ <;> try (exfalso; omega)) | refine condW_not ?_ | (refine condW_bool ?_ ?_ <;> intro _ <;> try (exfalso; omega)))
          | (refine facW_intro ?_; intro _)
          | refine Or.inl ?_
          | ((conv => whnf); first | (refine condW_dec ?_ ?_ <;> intro _ <;> try (exfalso; omega)) | refine condW_not ?_ | (refine condW_bool ?_ ?_ <;> intro _ <;> try (exfalso; omega)) | (refine nbC_t (fun _ => ?_) ?_) | (refine nbC_f ?_ (fun _ => ?_)))
          | refine And.intro (by first | omega | (simp only [Int.toNat_natCast] at *; omega) | (simp only [Nat.reduceAdd, Int.cast_ofNat_Int, true_and, and_true]; omega) | kernel_rfl) ?_
          | refine RegW.run ?_
          | refine ⟨_, hsp, ?_⟩
          | refine ⟨_, hre, ?_⟩
          | fail
        refine ⟨Nat, fun m => [(40, i64 m), (8, .own 40 2 0 (outP l v k ++ inP (l.getD k default) R m).length)], fun m => [], [2, 3, 10], fun m => [(40, 95, (outP l v k ++ inP (l.getD k default) R m).length, rowQ (outP l v k ++ inP (l.getD k default) R m))], fun m => m ≤ R.length, fun m => R.length - m, ⟨0, by omega, ⟨[(40, some 30)], ⟨by kernel_rfl, by kernel_rfl, by kernel_rfl, by kernel_rfl, by kernel_rfl, by kernel_rfl, by kernel_rfl⟩, (by repeat' first | ((first | exact hz | (intro i j hi hj; exact Dle.of_eq (by rw [hz0])))) | exact trivial | exact rfl | kernel_rfl | exact Dle.of_eq rfl | exact MLe.of_eq rfl | exact Dle.i (by omega) | exact Dle.i (by simp only [Int.toNat_natCast] at *; omega) | exact Dle.nil | exact Dle.rc Dle.nil | exact Option.some_ne_none _ | exact Or.inl rfl | exact Or.inr trivial | omega | (simp only [Int.toNat_natCast] at *; omega) | (intro _ _ _ _; exact Dle.of_eq rfl) | refine And.intro ?_ ?_)⟩⟩, fun m hm => ?_⟩
        have hm : m ≤ R.length := hm
        by_cases hmt : m < R.length
        · have g2 := inP_len (l.getD k default) R m
          have hl3 : (outP l v k ++ inP (l.getD k default) R m).length = (outP l v k).length + (inP (l.getD k default) R m).length := List.length_append
          have hme := refMeasure_sp E (R.getD ((m : Int)).toNat default).2.1
          have hco := containsS_sp E (l.getD ((k : Int)).toNat default).oneOf (R.getD ((m : Int)).toNat default).2.1.text
          have hbd := bound_cases (l.getD ((k : Int)).toNat default) (R.getD ((m : Int)).toNat default).1 (meaV (R.getD ((m : Int)).toNat default).2.1)
          obtain ⟨XR, hXR⟩ : ∃ X, X = rF (l.getD k default) (R.getD m default) := ⟨_, rfl⟩
          have eI : inP (l.getD k default) R (m + 1) = inP (l.getD k default) R m ++ XR := by rw [inP_succ hmt, hXR]
          have eR : XR = rF (l.getD ((k : Int)).toNat default) (R.getD ((m : Int)).toNat default) := hXR
          clear hXR
          unfold rF valF boundF otherF at eR
          generalize boundO (l.getD ((k : Int)).toNat default) (R.getD ((m : Int)).toNat default).1 (meaV (R.getD ((m : Int)).toNat default).2.1) = B at eR hbd
          generalize (meaV (R.getD ((m : Int)).toNat default).2.1).getD 0 = mi at hme hbd
          generalize (meaV (R.getD ((m : Int)).toNat default).2.1).isSome = mb at hme hbd
          generalize idxS (l.getD ((k : Int)).toNat default).oneOf (R.getD ((m : Int)).toNat default).2.1.text 0 = ix at eR hco
          by_cases hq1 : (R.getD ((m : Int)).toNat default).2.2 = true
          · rw [if_pos hq1] at eR
            by_cases hq2 : (l.getD ((k : Int)).toNat default).need = true
            · rw [if_pos hq2] at eR
              have e2 : (outP l v k ++ inP (l.getD k default) R (m + 1)) = (outP l v k ++ inP (l.getD k default) R m) ++ [((R.getD ((m : Int)).toNat default).1, 1)] := by rw [eI, eR, List.append_assoc]
              have e3 : (outP l v k ++ inP (l.getD k default) R m).length + 1 = (outP l v k ++ inP (l.getD k default) R (m + 1)).length := by (rw [e2]; simp only [List.length_append, List.length_cons, List.length_nil, Nat.add_zero, Nat.zero_add]) <;> omega
              repeat' first
                | (refine codeW_cond rfl ?_; first | (refine condW_dec ?_ ?_ <;> intro _ <;> try (exfalso; first | omega | (exact absurd (hq1.symm.trans (show (R.getD ((m : Int)).toNat default).2.2 = false by assumption)) (by decide)) | (exact absurd (hq2.symm.trans (show (l.getD ((k : Int)).toNat default).need = false by assumption)) (by decide)))) | refine condW_not ?_ | (refine condW_bool ?_ ?_ <;> intro _ <;> try (exfalso; first | omega | (exact absurd (hq1.symm.trans (show (R.getD ((m : Int)).toNat default).2.2 = false by assumption)) (by decide)) | (exact absurd (hq2.symm.trans (show (l.getD ((k : Int)).toNat default).need = false by assumption)) (by decide)))))
                | (refine facW_intro ?_; intro _)
                | refine Or.inl ?_
                | ((conv => whnf); first | (refine condW_dec ?_ ?_ <;> intro _ <;> try (exfalso; first | omega | (exact absurd (hq1.symm.trans (show (R.getD ((m : Int)).toNat default).2.2 = false by assumption)) (by decide)) | (exact absurd (hq2.symm.trans (show (l.getD ((k : Int)).toNat default).need = false by assumption)) (by decide)))) | refine condW_not ?_ | (refine condW_bool ?_ ?_ <;> intro _ <;> try (exfalso; first | omega | (exact absurd (hq1.symm.trans (show (R.getD ((m : Int)).toNat default).2.2 = false by assumption)) (by decide)) | (exact absurd (hq2.symm.trans (show (l.getD ((k : Int)).toNat default).need = false by assumption)) (by decide)))) | (refine nbC_t (fun _ => ?_) ?_) | (refine nbC_f ?_ (fun _ => ?_)))
                | refine And.intro (by first | omega | (simp only [Int.toNat_natCast] at *; omega) | (simp only [Nat.reduceAdd, Int.cast_ofNat_Int, true_and, and_true]; omega) | kernel_rfl) ?_
                | refine RegW.run ?_
                | refine ⟨_, hme, ?_⟩
                | refine ⟨_, hco, ?_⟩
                | fail
              all_goals first
                | (exfalso; exact absurd (hq1.symm.trans (show (R.getD ((m : Int)).toNat default).2.2 = false by assumption)) (by decide))
                | (exfalso; exact absurd (hq2.symm.trans (show (l.getD ((k : Int)).toNat default).need = false by assumption)) (by decide))
                | exact ⟨m + 1, by omega, ⟨[(40, some 60)], ⟨by kernel_rfl, by kernel_rfl, by kernel_rfl, by kernel_rfl, by kernel_rfl, by kernel_rfl, by kernel_rfl⟩, (by repeat' first | (exact e3) | exact trivial | exact rfl | kernel_rfl | exact Dle.of_eq rfl | exact MLe.of_eq rfl | exact Dle.i (by omega) | exact Dle.i (by simp only [Int.toNat_natCast] at *; omega) | exact Dle.nil | exact Dle.rc Dle.nil | exact Option.some_ne_none _ | exact Or.inl rfl | exact Or.inr trivial | omega | (simp only [Int.toNat_natCast] at *; omega) | (intro _ _ _ _; exact Dle.of_eq rfl) | (intro i j hi hj; (rw [e2]; exact row_q E (outP l v k ++ inP (l.getD k default) R m) (_, _) _ rfl i j hi hj)) | refine And.intro ?_ ?_)⟩, by first | omega | (dsimp only; omega)⟩
                | trace_state
            · rw [if_neg hq2] at eR
              have hq2 : (l.getD ((k : Int)).toNat default).need = false := by simpa using hq2
              have e2 : (outP l v k ++ inP (l.getD k default) R (m + 1)) = (outP l v k ++ inP (l.getD k default) R m) := by rw [eI, eR, List.append_nil]
              have e3 : (outP l v k ++ inP (l.getD k default) R m).length + 0 = (outP l v k ++ inP (l.getD k default) R (m + 1)).length := by (rw [e2]; simp only [List.length_append, List.length_cons, List.length_nil, Nat.add_zero, Nat.zero_add]) <;> omega
              repeat' first
                | (refine codeW_cond rfl ?_; first | (refine condW_dec ?_ ?_ <;> intro _ <;> try (exfalso; first | omega | (exact absurd (hq1.symm.trans (show (R.getD ((m : Int)).toNat default).2.2 = false by assumption)) (by decide)) | (exact absurd (hq2.symm.trans (show (l.getD ((k : Int)).toNat default).need = true by assumption)) (by decide)))) | refine condW_not ?_ | (refine condW_bool ?_ ?_ <;> intro _ <;> try (exfalso; first | omega | (exact absurd (hq1.symm.trans (show (R.getD ((m : Int)).toNat default).2.2 = false by assumption)) (by decide)) | (exact absurd (hq2.symm.trans (show (l.getD ((k : Int)).toNat default).need = true by assumption)) (by decide)))))
                | (refine facW_intro ?_; intro _)
                | refine Or.inl ?_
                | ((conv => whnf); first | (refine condW_dec ?_ ?_ <;> intro _ <;> try (exfalso; first | omega | (exact absurd (hq1.symm.trans (show (R.getD ((m : Int)).toNat default).2.2 = false by assumption)) (by decide)) | (exact absurd (hq2.symm.trans (show (l.getD ((k : Int)).toNat default).need = true by assumption)) (by decide)))) | refine condW_not ?_ | (refine condW_bool ?_ ?_ <;> intro _ <;> try (exfalso; first | omega | (exact absurd (hq1.symm.trans (show (R.getD ((m : Int)).toNat default).2.2 = false by assumption)) (by decide)) | (exact absurd (hq2.symm.trans (show (l.getD ((k : Int)).toNat default).need = true by assumption)) (by decide)))) | (refine nbC_t (fun _ => ?_) ?_) | (refine nbC_f ?_ (fun _ => ?_)))
                | refine And.intro (by first | omega | (simp only [Int.toNat_natCast] at *; omega) | (simp only [Nat.reduceAdd, Int.cast_ofNat_Int, true_and, and_true]; omega) | kernel_rfl) ?_
                | refine RegW.run ?_
                | refine ⟨_, hme, ?_⟩
                | refine ⟨_, hco, ?_⟩
                | fail
              all_goals first
                | (exfalso; exact absurd (hq1.symm.trans (show (R.getD ((m : Int)).toNat default).2.2 = false by assumption)) (by decide))
                | (exfalso; exact absurd (hq2.symm.trans (show (l.getD ((k : Int)).toNat default).need = true by assumption)) (by decide))
                | exact ⟨m + 1, by omega, ⟨[(40, some 40)], ⟨by kernel_rfl, by kernel_rfl, by kernel_rfl, by kernel_rfl, by kernel_rfl, by kernel_rfl, by kernel_rfl⟩, (by repeat' first | (exact e3) | exact trivial | exact rfl | kernel_rfl | exact Dle.of_eq rfl | exact MLe.of_eq rfl | exact Dle.i (by omega) | exact Dle.i (by simp only [Int.toNat_natCast] at *; omega) | exact Dle.nil | exact Dle.rc Dle.nil | exact Option.some_ne_none _ | exact Or.inl rfl | exact Or.inr trivial | omega | (simp only [Int.toNat_natCast] at *; omega) | (intro _ _ _ _; exact Dle.of_eq rfl) | (intro i j hi hj; (rw [e2]; exact Dle.refl _ _)) | refine And.intro ?_ ?_)⟩, by first | omega | (dsimp only; omega)⟩
                | trace_state
          · rw [if_neg hq1] at eR
            have hq1 : (R.getD ((m : Int)).toNat default).2.2 = false := by simpa using hq1
            by_cases hq2 : (l.getD ((k : Int)).toNat default).kind ≠ -1 ∧ (R.getD ((m : Int)).toNat default).2.1.kind ≠ (l.getD ((k : Int)).toNat default).kind
            · rw [if_pos hq2] at eR
              have e2 : (outP l v k ++ inP (l.getD k default) R (m + 1)) = (outP l v k ++ inP (l.getD k default) R m) ++ [((R.getD ((m : Int)).toNat default).1, 2)] := by rw [eI, eR, List.append_assoc]
              have e3 : (outP l v k ++ inP (l.getD k default) R m).length + 1 = (outP l v k ++ inP (l.getD k default) R (m + 1)).length := by (rw [e2]; simp only [List.length_append, List.length_cons, List.length_nil, Nat.add_zero, Nat.zero_add]) <;> omega
              repeat' first
                | (refine codeW_cond rfl ?_; first | (refine condW_dec ?_ ?_ <;> intro _ <;> try (exfalso; first | omega | (exact absurd (hq1.symm.trans (show (R.getD ((m : Int)).toNat default).2.2 = true by assumption)) (by decide)))) | refine condW_not ?_ | (refine condW_bool ?_ ?_ <;> intro _ <;> try (exfalso; first | omega | (exact absurd (hq1.symm.trans (show (R.getD ((m : Int)).toNat default).2.2 = true by assumption)) (by decide)))))
                | (refine facW_intro ?_; intro _)
                | refine Or.inl ?_
                | ((conv => whnf); first | (refine condW_dec ?_ ?_ <;> intro _ <;> try (exfalso; first | omega | (exact absurd (hq1.symm.trans (show (R.getD ((m : Int)).toNat default).2.2 = true by assumption)) (by decide)))) | refine condW_not ?_ | (refine condW_bool ?_ ?_ <;> intro _ <;> try (exfalso; first | omega | (exact absurd (hq1.symm.trans (show (R.getD ((m : Int)).toNat default).2.2 = true by assumption)) (by decide)))) | (refine nbC_t (fun _ => ?_) ?_) | (refine nbC_f ?_ (fun _ => ?_)))
                | refine And.intro (by first | omega | (simp only [Int.toNat_natCast] at *; omega) | (simp only [Nat.reduceAdd, Int.cast_ofNat_Int, true_and, and_true]; omega) | kernel_rfl) ?_
                | refine RegW.run ?_
                | refine ⟨_, hme, ?_⟩
                | refine ⟨_, hco, ?_⟩
                | fail
              all_goals first
                | (exfalso; exact absurd (hq1.symm.trans (show (R.getD ((m : Int)).toNat default).2.2 = true by assumption)) (by decide))
                | (exfalso; omega)
                | exact ⟨m + 1, by omega, ⟨[(40, some 78)], ⟨by kernel_rfl, by kernel_rfl, by kernel_rfl, by kernel_rfl, by kernel_rfl, by kernel_rfl, by kernel_rfl⟩, (by repeat' first | (exact e3) | exact trivial | exact rfl | kernel_rfl | exact Dle.of_eq rfl | exact MLe.of_eq rfl | exact Dle.i (by omega) | exact Dle.i (by simp only [Int.toNat_natCast] at *; omega) | exact Dle.nil | exact Dle.rc Dle.nil | exact Option.some_ne_none _ | exact Or.inl rfl | exact Or.inr trivial | omega | (simp only [Int.toNat_natCast] at *; omega) | (intro _ _ _ _; exact Dle.of_eq rfl) | (intro i j hi hj; (rw [e2]; exact row_q E (outP l v k ++ inP (l.getD k default) R m) (_, _) _ rfl i j hi hj)) | refine And.intro ?_ ?_)⟩, by first | omega | (dsimp only; omega)⟩
                | trace_state
            · rw [if_neg hq2] at eR
              have hq2 : (l.getD ((k : Int)).toNat default).kind = -1 ∨ (R.getD ((m : Int)).toNat default).2.1.kind = (l.getD ((k : Int)).toNat default).kind := by omega
              rcases hbd with ⟨hB, hA⟩ | ⟨hB, hb1, hb2, hb3⟩ | ⟨hB, hb1, hb2, hb3, hb4⟩
              · have hA := hA mi mb rfl
                rw [hB, List.nil_append] at eR
                by_cases hO : (l.getD ((k : Int)).toNat default).oneOf.length = 0 ∨ (R.getD ((m : Int)).toNat default).2.1.kind ≠ 3
                · rw [if_pos hO] at eR
                  have e2 : (outP l v k ++ inP (l.getD k default) R (m + 1)) = (outP l v k ++ inP (l.getD k default) R m) := by rw [eI, eR, List.append_nil]
                  have e3 : (outP l v k ++ inP (l.getD k default) R m).length + 0 = (outP l v k ++ inP (l.getD k default) R (m + 1)).length := by (rw [e2]; simp only [List.length_append, List.length_cons, List.length_nil, Nat.add_zero, Nat.zero_add]) <;> omega
                  repeat' first
                    | (refine codeW_cond rfl ?_; first | (refine condW_dec ?_ ?_ <;> intro _ <;> try (exfalso; first | omega | (exact absurd (hq1.symm.trans (show (R.getD ((m : Int)).toNat default).2.2 = true by assumption)) (by decide)) | (exact absurd ((show (l.getD ((k : Int)).toNat default).bounded = true by assumption).symm.trans (show (l.getD ((k : Int)).toNat default).bounded = false by assumption)) (by decide)) | (exact absurd ((show mb = true by assumption).symm.trans (show mb = false by assumption)) (by decide)) | (have := hA (by assumption) (by assumption); omega))) | refine condW_not ?_ | (refine condW_bool ?_ ?_ <;> intro _ <;> try (exfalso; first | omega | (exact absurd (hq1.symm.trans (show (R.getD ((m : Int)).toNat default).2.2 = true by assumption)) (by decide)) | (exact absurd ((show (l.getD ((k : Int)).toNat default).bounded = true by assumption).symm.trans (show (l.getD ((k : Int)).toNat default).bounded = false by assumption)) (by decide)) | (exact absurd ((show mb = true by assumption).symm.trans (show mb = false by assumption)) (by decide)) | (have := hA (by assumption) (by assumption); omega))))
                    | (refine facW_intro ?_; intro _)
                    | refine Or.inl ?_
                    | ((conv => whnf); first | (refine condW_dec ?_ ?_ <;> intro _ <;> try (exfalso; first | omega | (exact absurd (hq1.symm.trans (show (R.getD ((m : Int)).toNat default).2.2 = true by assumption)) (by decide)) | (exact absurd ((show (l.getD ((k : Int)).toNat default).bounded = true by assumption).symm.trans (show (l.getD ((k : Int)).toNat default).bounded = false by assumption)) (by decide)) | (exact absurd ((show mb = true by assumption).symm.trans (show mb = false by assumption)) (by decide)) | (have := hA (by assumption) (by assumption); omega))) | refine condW_not ?_ | (refine condW_bool ?_ ?_ <;> intro _ <;> try (exfalso; first | omega | (exact absurd (hq1.symm.trans (show (R.getD ((m : Int)).toNat default).2.2 = true by assumption)) (by decide)) | (exact absurd ((show (l.getD ((k : Int)).toNat default).bounded = true by assumption).symm.trans (show (l.getD ((k : Int)).toNat default).bounded = false by assumption)) (by decide)) | (exact absurd ((show mb = true by assumption).symm.trans (show mb = false by assumption)) (by decide)) | (have := hA (by assumption) (by assumption); omega))) | (refine nbC_t (fun _ => ?_) ?_) | (refine nbC_f ?_ (fun _ => ?_)))
                    | refine And.intro (by first | omega | (simp only [Int.toNat_natCast] at *; omega) | (simp only [Nat.reduceAdd, Int.cast_ofNat_Int, true_and, and_true]; omega) | kernel_rfl) ?_
                    | refine RegW.run ?_
                    | refine ⟨_, hme, ?_⟩
                    | refine ⟨_, hco, ?_⟩
                    | fail
                  all_goals first
                    | (exfalso; exact absurd (hq1.symm.trans (show (R.getD ((m : Int)).toNat default).2.2 = true by assumption)) (by decide))
                    | (exfalso; exact absurd ((show (l.getD ((k : Int)).toNat default).bounded = true by assumption).symm.trans (show (l.getD ((k : Int)).toNat default).bounded = false by assumption)) (by decide))
                    | (exfalso; exact absurd ((show mb = true by assumption).symm.trans (show mb = false by assumption)) (by decide))
                    | (exfalso; have := hA (by assumption) (by assumption); omega)
                    | (exfalso; omega)
                    | exact ⟨m + 1, by omega, ⟨[(40, some 40)], ⟨by kernel_rfl, by kernel_rfl, by kernel_rfl, by kernel_rfl, by kernel_rfl, by kernel_rfl, by kernel_rfl⟩, (by repeat' first | (exact e3) | exact trivial | exact rfl | kernel_rfl | exact Dle.of_eq rfl | exact MLe.of_eq rfl | exact Dle.i (by omega) | exact Dle.i (by simp only [Int.toNat_natCast] at *; omega) | exact Dle.nil | exact Dle.rc Dle.nil | exact Option.some_ne_none _ | exact Or.inl rfl | exact Or.inr trivial | omega | (simp only [Int.toNat_natCast] at *; omega) | (intro _ _ _ _; exact Dle.of_eq rfl) | (intro i j hi hj; (rw [e2]; exact Dle.refl _ _)) | refine And.intro ?_ ?_)⟩, by first | omega | (dsimp only; omega)⟩
                    | trace_state
                · rw [if_neg hO] at eR
                  by_cases hx : 0 ≤ ix
                  · rw [if_pos hx] at eR
                    have e2 : (outP l v k ++ inP (l.getD k default) R (m + 1)) = (outP l v k ++ inP (l.getD k default) R m) := by rw [eI, eR, List.append_nil]
                    have e3 : (outP l v k ++ inP (l.getD k default) R m).length + 0 = (outP l v k ++ inP (l.getD k default) R (m + 1)).length := by (rw [e2]; simp only [List.length_append, List.length_cons, List.length_nil, Nat.add_zero, Nat.zero_add]) <;> omega
                    repeat' first
                      | (refine codeW_cond rfl ?_; first | (refine condW_dec ?_ ?_ <;> intro _ <;> try (exfalso; first | omega | (exact absurd (hq1.symm.trans (show (R.getD ((m : Int)).toNat default).2.2 = true by assumption)) (by decide)) | (exact absurd ((show (l.getD ((k : Int)).toNat default).bounded = true by assumption).symm.trans (show (l.getD ((k : Int)).toNat default).bounded = false by assumption)) (by decide)) | (exact absurd ((show mb = true by assumption).symm.trans (show mb = false by assumption)) (by decide)) | (have := hA (by assumption) (by assumption); omega))) | refine condW_not ?_ | (refine condW_bool ?_ ?_ <;> intro _ <;> try (exfalso; first | omega | (exact absurd (hq1.symm.trans (show (R.getD ((m : Int)).toNat default).2.2 = true by assumption)) (by decide)) | (exact absurd ((show (l.getD ((k : Int)).toNat default).bounded = true by assumption).symm.trans (show (l.getD ((k : Int)).toNat default).bounded = false by assumption)) (by decide)) | (exact absurd ((show mb = true by assumption).symm.trans (show mb = false by assumption)) (by decide)) | (have := hA (by assumption) (by assumption); omega))))
                      | (refine facW_intro ?_; intro _)
                      | refine Or.inl ?_
                      | ((conv => whnf); first | (refine condW_dec ?_ ?_ <;> intro _ <;> try (exfalso; first | omega | (exact absurd (hq1.symm.trans (show (R.getD ((m : Int)).toNat default).2.2 = true by assumption)) (by decide)) | (exact absurd ((show (l.getD ((k : Int)).toNat default).bounded = true by assumption).symm.trans (show (l.getD ((k : Int)).toNat default).bounded = false by assumption)) (by decide)) | (exact absurd ((show mb = true by assumption).symm.trans (show mb = false by assumption)) (by decide)) | (have := hA (by assumption) (by assumption); omega))) | refine condW_not ?_ | (refine condW_bool ?_ ?_ <;> intro _ <;> try (exfalso; first | omega | (exact absurd (hq1.symm.trans (show (R.getD ((m : Int)).toNat default).2.2 = true by assumption)) (by decide)) | (exact absurd ((show (l.getD ((k : Int)).toNat default).bounded = true by assumption).symm.trans (show (l.getD ((k : Int)).toNat default).bounded = false by assumption)) (by decide)) | (exact absurd ((show mb = true by assumption).symm.trans (show mb = false by assumption)) (by decide)) | (have := hA (by assumption) (by assumption); omega))) | (refine nbC_t (fun _ => ?_) ?_) | (refine nbC_f ?_ (fun _ => ?_)))
                      | refine And.intro (by first | omega | (simp only [Int.toNat_natCast] at *; omega) | (simp only [Nat.reduceAdd, Int.cast_ofNat_Int, true_and, and_true]; omega) | kernel_rfl) ?_
                      | refine RegW.run ?_
                      | refine ⟨_, hme, ?_⟩
                      | refine ⟨_, hco, ?_⟩
                      | fail
                    all_goals first
                      | (exfalso; exact absurd (hq1.symm.trans (show (R.getD ((m : Int)).toNat default).2.2 = true by assumption)) (by decide))
                      | (exfalso; exact absurd ((show (l.getD ((k : Int)).toNat default).bounded = true by assumption).symm.trans (show (l.getD ((k : Int)).toNat default).bounded = false by assumption)) (by decide))
                      | (exfalso; exact absurd ((show mb = true by assumption).symm.trans (show mb = false by assumption)) (by decide))
                      | (exfalso; have := hA (by assumption) (by assumption); omega)
                      | (exfalso; omega)
                      | (exfalso; exact hcx (by assumption))
                      | exact ⟨m + 1, by omega, ⟨[(40, some 40)], ⟨by kernel_rfl, by kernel_rfl, by kernel_rfl, by kernel_rfl, by kernel_rfl, by kernel_rfl, by kernel_rfl⟩, (by repeat' first | (exact e3) | exact trivial | exact rfl | kernel_rfl | exact Dle.of_eq rfl | exact MLe.of_eq rfl | exact Dle.i (by omega) | exact Dle.i (by simp only [Int.toNat_natCast] at *; omega) | exact Dle.nil | exact Dle.rc Dle.nil | exact Option.some_ne_none _ | exact Or.inl rfl | exact Or.inr trivial | omega | (simp only [Int.toNat_natCast] at *; omega) | (intro _ _ _ _; exact Dle.of_eq rfl) | (intro i j hi hj; (rw [e2]; exact Dle.refl _ _)) | refine And.intro ?_ ?_)⟩, by first | omega | (dsimp only; omega)⟩
                      | trace_state
                  · rw [if_neg hx] at eR
                    have e2 : (outP l v k ++ inP (l.getD k default) R (m + 1)) = (outP l v k ++ inP (l.getD k default) R m) ++ [((R.getD ((m : Int)).toNat default).1, 5)] := by rw [eI, eR, List.append_assoc]
                    have e3 : (outP l v k ++ inP (l.getD k default) R m).length + 1 = (outP l v k ++ inP (l.getD k default) R (m + 1)).length := by (rw [e2]; simp only [List.length_append, List.length_cons, List.length_nil, Nat.add_zero, Nat.zero_add]) <;> omega
                    repeat' first
                      | (refine codeW_cond rfl ?_; first | (refine condW_dec ?_ ?_ <;> intro _ <;> try (exfalso; first | omega | (exact absurd (hq1.symm.trans (show (R.getD ((m : Int)).toNat default).2.2 = true by assumption)) (by decide)) | (exact absurd ((show (l.getD ((k : Int)).toNat default).bounded = true by assumption).symm.trans (show (l.getD ((k : Int)).toNat default).bounded = false by assumption)) (by decide)) | (exact absurd ((show mb = true by assumption).symm.trans (show mb = false by assumption)) (by decide)) | (have := hA (by assumption) (by assumption); omega))) | refine condW_not ?_ | (refine condW_bool ?_ ?_ <;> intro _ <;> try (exfalso; first | omega | (exact absurd (hq1.symm.trans (show (R.getD ((m : Int)).toNat default).2.2 = true by assumption)) (by decide)) | (exact absurd ((show (l.getD ((k : Int)).toNat default).bounded = true by assumption).symm.trans (show (l.getD ((k : Int)).toNat default).bounded = false by assumption)) (by decide)) | (exact absurd ((show mb = true by assumption).symm.trans (show mb = false by assumption)) (by decide)) | (have := hA (by assumption) (by assumption); omega))))
                      | (refine facW_intro ?_; intro _)
                      | refine Or.inl ?_
                      | ((conv => whnf); first | (refine condW_dec ?_ ?_ <;> intro _ <;> try (exfalso; first | omega | (exact absurd (hq1.symm.trans (show (R.getD ((m : Int)).toNat default).2.2 = true by assumption)) (by decide)) | (exact absurd ((show (l.getD ((k : Int)).toNat default).bounded = true by assumption).symm.trans (show (l.getD ((k : Int)).toNat default).bounded = false by assumption)) (by decide)) | (exact absurd ((show mb = true by assumption).symm.trans (show mb = false by assumption)) (by decide)) | (have := hA (by assumption) (by assumption); omega))) | refine condW_not ?_ | (refine condW_bool ?_ ?_ <;> intro _ <;> try (exfalso; first | omega | (exact absurd (hq1.symm.trans (show (R.getD ((m : Int)).toNat default).2.2 = true by assumption)) (by decide)) | (exact absurd ((show (l.getD ((k : Int)).toNat default).bounded = true by assumption).symm.trans (show (l.getD ((k : Int)).toNat default).bounded = false by assumption)) (by decide)) | (exact absurd ((show mb = true by assumption).symm.trans (show mb = false by assumption)) (by decide)) | (have := hA (by assumption) (by assumption); omega))) | (refine nbC_t (fun _ => ?_) ?_) | (refine nbC_f ?_ (fun _ => ?_)))
                      | refine And.intro (by first | omega | (simp only [Int.toNat_natCast] at *; omega) | (simp only [Nat.reduceAdd, Int.cast_ofNat_Int, true_and, and_true]; omega) | kernel_rfl) ?_
                      | refine RegW.run ?_
                      | refine ⟨_, hme, ?_⟩
                      | refine ⟨_, hco, ?_⟩
                      | fail
                    all_goals first
                      | (exfalso; exact absurd (hq1.symm.trans (show (R.getD ((m : Int)).toNat default).2.2 = true by assumption)) (by decide))
                      | (exfalso; exact absurd ((show (l.getD ((k : Int)).toNat default).bounded = true by assumption).symm.trans (show (l.getD ((k : Int)).toNat default).bounded = false by assumption)) (by decide))
                      | (exfalso; exact absurd ((show mb = true by assumption).symm.trans (show mb = false by assumption)) (by decide))
                      | (exfalso; have := hA (by assumption) (by assumption); omega)
                      | (exfalso; omega)
                      | exact ⟨m + 1, by omega, ⟨[(40, some 139)], ⟨by kernel_rfl, by kernel_rfl, by kernel_rfl, by kernel_rfl, by kernel_rfl, by kernel_rfl, by kernel_rfl⟩, (by repeat' first | (exact e3) | exact trivial | exact rfl | kernel_rfl | exact Dle.of_eq rfl | exact MLe.of_eq rfl | exact Dle.i (by omega) | exact Dle.i (by simp only [Int.toNat_natCast] at *; omega) | exact Dle.nil | exact Dle.rc Dle.nil | exact Option.some_ne_none _ | exact Or.inl rfl | exact Or.inr trivial | omega | (simp only [Int.toNat_natCast] at *; omega) | (intro _ _ _ _; exact Dle.of_eq rfl) | (intro i j hi hj; (rw [e2]; exact row_q E (outP l v k ++ inP (l.getD k default) R m) (_, _) _ rfl i j hi hj)) | refine And.intro ?_ ?_)⟩, by first | omega | (dsimp only; omega)⟩
                      | trace_state
              · rw [hB] at eR
                by_cases hO : (l.getD ((k : Int)).toNat default).oneOf.length = 0 ∨ (R.getD ((m : Int)).toNat default).2.1.kind ≠ 3
                · rw [if_pos hO, List.append_nil] at eR
                  have e2 : (outP l v k ++ inP (l.getD k default) R (m + 1)) = (outP l v k ++ inP (l.getD k default) R m) ++ [((R.getD ((m : Int)).toNat default).1, 3)] := by rw [eI, eR, List.append_assoc]
                  have e3 : (outP l v k ++ inP (l.getD k default) R m).length + 1 = (outP l v k ++ inP (l.getD k default) R (m + 1)).length := by (rw [e2]; simp only [List.length_append, List.length_cons, List.length_nil, Nat.add_zero, Nat.zero_add]) <;> omega
                  repeat' first
                    | (refine codeW_cond rfl ?_; first | (refine condW_dec ?_ ?_ <;> intro _ <;> try (exfalso; first | omega | (exact absurd (hq1.symm.trans (show (R.getD ((m : Int)).toNat default).2.2 = true by assumption)) (by decide)) | (exact absurd (hb1.symm.trans (show (l.getD ((k : Int)).toNat default).bounded = false by assumption)) (by decide)) | (exact absurd (hb2.symm.trans (show mb = false by assumption)) (by decide)))) | refine condW_not ?_ | (refine condW_bool ?_ ?_ <;> intro _ <;> try (exfalso; first | omega | (exact absurd (hq1.symm.trans (show (R.getD ((m : Int)).toNat default).2.2 = true by assumption)) (by decide)) | (exact absurd (hb1.symm.trans (show (l.getD ((k : Int)).toNat default).bounded = false by assumption)) (by decide)) | (exact absurd (hb2.symm.trans (show mb = false by assumption)) (by decide)))))
                    | (refine facW_intro ?_; intro _)
                    | refine Or.inl ?_
                    | ((conv => whnf); first | (refine condW_dec ?_ ?_ <;> intro _ <;> try (exfalso; first | omega | (exact absurd (hq1.symm.trans (show (R.getD ((m : Int)).toNat default).2.2 = true by assumption)) (by decide)) | (exact absurd (hb1.symm.trans (show (l.getD ((k : Int)).toNat default).bounded = false by assumption)) (by decide)) | (exact absurd (hb2.symm.trans (show mb = false by assumption)) (by decide)))) | refine condW_not ?_ | (refine condW_bool ?_ ?_ <;> intro _ <;> try (exfalso; first | omega | (exact absurd (hq1.symm.trans (show (R.getD ((m : Int)).toNat default).2.2 = true by assumption)) (by decide)) | (exact absurd (hb1.symm.trans (show (l.getD ((k : Int)).toNat default).bounded = false by assumption)) (by decide)) | (exact absurd (hb2.symm.trans (show mb = false by assumption)) (by decide)))) | (refine nbC_t (fun _ => ?_) ?_) | (refine nbC_f ?_ (fun _ => ?_)))
                    | refine And.intro (by first | omega | (simp only [Int.toNat_natCast] at *; omega) | (simp only [Nat.reduceAdd, Int.cast_ofNat_Int, true_and, and_true]; omega) | kernel_rfl) ?_
                    | refine RegW.run ?_
                    | refine ⟨_, hme, ?_⟩
                    | refine ⟨_, hco, ?_⟩
                    | fail
                  all_goals first
                    | (exfalso; exact absurd (hq1.symm.trans (show (R.getD ((m : Int)).toNat default).2.2 = true by assumption)) (by decide))
                    | (exfalso; exact absurd (hb1.symm.trans (show (l.getD ((k : Int)).toNat default).bounded = false by assumption)) (by decide))
                    | (exfalso; exact absurd (hb2.symm.trans (show mb = false by assumption)) (by decide))
                    | (exfalso; omega)
                    | exact ⟨m + 1, by omega, ⟨[(40, some 96)], ⟨by kernel_rfl, by kernel_rfl, by kernel_rfl, by kernel_rfl, by kernel_rfl, by kernel_rfl, by kernel_rfl⟩, (by repeat' first | (exact e3) | exact trivial | exact rfl | kernel_rfl | exact Dle.of_eq rfl | exact MLe.of_eq rfl | exact Dle.i (by omega) | exact Dle.i (by simp only [Int.toNat_natCast] at *; omega) | exact Dle.nil | exact Dle.rc Dle.nil | exact Option.some_ne_none _ | exact Or.inl rfl | exact Or.inr trivial | omega | (simp only [Int.toNat_natCast] at *; omega) | (intro _ _ _ _; exact Dle.of_eq rfl) | (intro i j hi hj; (rw [e2]; exact row_q E (outP l v k ++ inP (l.getD k default) R m) (_, _) _ rfl i j hi hj)) | refine And.intro ?_ ?_)⟩, by first | omega | (dsimp only; omega)⟩
                    | trace_state
                · rw [if_neg hO] at eR
                  by_cases hx : 0 ≤ ix
                  · rw [if_pos hx, List.append_nil] at eR
                    have e2 : (outP l v k ++ inP (l.getD k default) R (m + 1)) = (outP l v k ++ inP (l.getD k default) R m) ++ [((R.getD ((m : Int)).toNat default).1, 3)] := by rw [eI, eR, List.append_assoc]
                    have e3 : (outP l v k ++ inP (l.getD k default) R m).length + 1 = (outP l v k ++ inP (l.getD k default) R (m + 1)).length := by (rw [e2]; simp only [List.length_append, List.length_cons, List.length_nil, Nat.add_zero, Nat.zero_add]) <;> omega
                    repeat' first
                      | (refine codeW_cond rfl ?_; first | (refine condW_dec ?_ ?_ <;> intro _ <;> try (exfalso; first | omega | (exact absurd (hq1.symm.trans (show (R.getD ((m : Int)).toNat default).2.2 = true by assumption)) (by decide)) | (exact absurd (hb1.symm.trans (show (l.getD ((k : Int)).toNat default).bounded = false by assumption)) (by decide)) | (exact absurd (hb2.symm.trans (show mb = false by assumption)) (by decide)))) | refine condW_not ?_ | (refine condW_bool ?_ ?_ <;> intro _ <;> try (exfalso; first | omega | (exact absurd (hq1.symm.trans (show (R.getD ((m : Int)).toNat default).2.2 = true by assumption)) (by decide)) | (exact absurd (hb1.symm.trans (show (l.getD ((k : Int)).toNat default).bounded = false by assumption)) (by decide)) | (exact absurd (hb2.symm.trans (show mb = false by assumption)) (by decide)))))
                      | (refine facW_intro ?_; intro _)
                      | refine Or.inl ?_
                      | ((conv => whnf); first | (refine condW_dec ?_ ?_ <;> intro _ <;> try (exfalso; first | omega | (exact absurd (hq1.symm.trans (show (R.getD ((m : Int)).toNat default).2.2 = true by assumption)) (by decide)) | (exact absurd (hb1.symm.trans (show (l.getD ((k : Int)).toNat default).bounded = false by assumption)) (by decide)) | (exact absurd (hb2.symm.trans (show mb = false by assumption)) (by decide)))) | refine condW_not ?_ | (refine condW_bool ?_ ?_ <;> intro _ <;> try (exfalso; first | omega | (exact absurd (hq1.symm.trans (show (R.getD ((m : Int)).toNat default).2.2 = true by assumption)) (by decide)) | (exact absurd (hb1.symm.trans (show (l.getD ((k : Int)).toNat default).bounded = false by assumption)) (by decide)) | (exact absurd (hb2.symm.trans (show mb = false by assumption)) (by decide)))) | (refine nbC_t (fun _ => ?_) ?_) | (refine nbC_f ?_ (fun _ => ?_)))
                      | refine And.intro (by first | omega | (simp only [Int.toNat_natCast] at *; omega) | (simp only [Nat.reduceAdd, Int.cast_ofNat_Int, true_and, and_true]; omega) | kernel_rfl) ?_
                      | refine RegW.run ?_
                      | refine ⟨_, hme, ?_⟩
                      | refine ⟨_, hco, ?_⟩
                      | fail
                    all_goals first
                      | (exfalso; exact absurd (hq1.symm.trans (show (R.getD ((m : Int)).toNat default).2.2 = true by assumption)) (by decide))
                      | (exfalso; exact absurd (hb1.symm.trans (show (l.getD ((k : Int)).toNat default).bounded = false by assumption)) (by decide))
                      | (exfalso; exact absurd (hb2.symm.trans (show mb = false by assumption)) (by decide))
                      | (exfalso; omega)
                      | (exfalso; exact hcx (by assumption))
                      | exact ⟨m + 1, by omega, ⟨[(40, some 96)], ⟨by kernel_rfl, by kernel_rfl, by kernel_rfl, by kernel_rfl, by kernel_rfl, by kernel_rfl, by kernel_rfl⟩, (by repeat' first | (exact e3) | exact trivial | exact rfl | kernel_rfl | exact Dle.of_eq rfl | exact MLe.of_eq rfl | exact Dle.i (by omega) | exact Dle.i (by simp only [Int.toNat_natCast] at *; omega) | exact Dle.nil | exact Dle.rc Dle.nil | exact Option.some_ne_none _ | exact Or.inl rfl | exact Or.inr trivial | omega | (simp only [Int.toNat_natCast] at *; omega) | (intro _ _ _ _; exact Dle.of_eq rfl) | (intro i j hi hj; (rw [e2]; exact row_q E (outP l v k ++ inP (l.getD k default) R m) (_, _) _ rfl i j hi hj)) | refine And.intro ?_ ?_)⟩, by first | omega | (dsimp only; omega)⟩
                      | trace_state
                  · rw [if_neg hx] at eR
                    have e2 : (outP l v k ++ inP (l.getD k default) R (m + 1)) = (outP l v k ++ inP (l.getD k default) R m) ++ [((R.getD ((m : Int)).toNat default).1, 3)] ++ [((R.getD ((m : Int)).toNat default).1, 5)] := by rw [eI, eR, List.append_assoc, List.append_assoc]
                    have e3 : (outP l v k ++ inP (l.getD k default) R m).length + 2 = (outP l v k ++ inP (l.getD k default) R (m + 1)).length := by (rw [e2]; simp only [List.length_append, List.length_cons, List.length_nil, Nat.add_zero, Nat.zero_add]) <;> omega
                    repeat' first
                      | (refine codeW_cond rfl ?_; first | (refine condW_dec ?_ ?_ <;> intro _ <;> try (exfalso; first | omega | (exact absurd (hq1.symm.trans (show (R.getD ((m : Int)).toNat default).2.2 = true by assumption)) (by decide)) | (exact absurd (hb1.symm.trans (show (l.getD ((k : Int)).toNat default).bounded = false by assumption)) (by decide)) | (exact absurd (hb2.symm.trans (show mb = false by assumption)) (by decide)))) | refine condW_not ?_ | (refine condW_bool ?_ ?_ <;> intro _ <;> try (exfalso; first | omega | (exact absurd (hq1.symm.trans (show (R.getD ((m : Int)).toNat default).2.2 = true by assumption)) (by decide)) | (exact absurd (hb1.symm.trans (show (l.getD ((k : Int)).toNat default).bounded = false by assumption)) (by decide)) | (exact absurd (hb2.symm.trans (show mb = false by assumption)) (by decide)))))
                      | (refine facW_intro ?_; intro _)
                      | refine Or.inl ?_
                      | ((conv => whnf); first | (refine condW_dec ?_ ?_ <;> intro _ <;> try (exfalso; first | omega | (exact absurd (hq1.symm.trans (show (R.getD ((m : Int)).toNat default).2.2 = true by assumption)) (by decide)) | (exact absurd (hb1.symm.trans (show (l.getD ((k : Int)).toNat default).bounded = false by assumption)) (by decide)) | (exact absurd (hb2.symm.trans (show mb = false by assumption)) (by decide)))) | refine condW_not ?_ | (refine condW_bool ?_ ?_ <;> intro _ <;> try (exfalso; first | omega | (exact absurd (hq1.symm.trans (show (R.getD ((m : Int)).toNat default).2.2 = true by assumption)) (by decide)) | (exact absurd (hb1.symm.trans (show (l.getD ((k : Int)).toNat default).bounded = false by assumption)) (by decide)) | (exact absurd (hb2.symm.trans (show mb = false by assumption)) (by decide)))) | (refine nbC_t (fun _ => ?_) ?_) | (refine nbC_f ?_ (fun _ => ?_)))
                      | refine And.intro (by first | omega | (simp only [Int.toNat_natCast] at *; omega) | (simp only [Nat.reduceAdd, Int.cast_ofNat_Int, true_and, and_true]; omega) | kernel_rfl) ?_
                      | refine RegW.run ?_
                      | refine ⟨_, hme, ?_⟩
                      | refine ⟨_, hco, ?_⟩
                      | fail
                    all_goals first
                      | (exfalso; exact absurd (hq1.symm.trans (show (R.getD ((m : Int)).toNat default).2.2 = true by assumption)) (by decide))
                      | (exfalso; exact absurd (hb1.symm.trans (show (l.getD ((k : Int)).toNat default).bounded = false by assumption)) (by decide))
                      | (exfalso; exact absurd (hb2.symm.trans (show mb = false by assumption)) (by decide))
                      | (exfalso; omega)
                      | exact ⟨m + 1, by omega, ⟨[(40, some 139)], ⟨by kernel_rfl, by kernel_rfl, by kernel_rfl, by kernel_rfl, by kernel_rfl, by kernel_rfl, by kernel_rfl⟩, (by repeat' first | (exact e3) | exact trivial | exact rfl | kernel_rfl | exact Dle.of_eq rfl | exact MLe.of_eq rfl | exact Dle.i (by omega) | exact Dle.i (by simp only [Int.toNat_natCast] at *; omega) | exact Dle.nil | exact Dle.rc Dle.nil | exact Option.some_ne_none _ | exact Or.inl rfl | exact Or.inr trivial | omega | (simp only [Int.toNat_natCast] at *; omega) | (intro _ _ _ _; exact Dle.of_eq rfl) | (intro i j hi hj; (rw [e2]; exact row_q2 E (outP l v k ++ inP (l.getD k default) R m) (_, _) (_, _) _ _ rfl rfl i j hi hj)) | refine And.intro ?_ ?_)⟩, by first | omega | (dsimp only; omega)⟩
                      | trace_state
              · rw [hB] at eR
                by_cases hO : (l.getD ((k : Int)).toNat default).oneOf.length = 0 ∨ (R.getD ((m : Int)).toNat default).2.1.kind ≠ 3
                · rw [if_pos hO, List.append_nil] at eR
                  have e2 : (outP l v k ++ inP (l.getD k default) R (m + 1)) = (outP l v k ++ inP (l.getD k default) R m) ++ [((R.getD ((m : Int)).toNat default).1, 4)] := by rw [eI, eR, List.append_assoc]
                  have e3 : (outP l v k ++ inP (l.getD k default) R m).length + 1 = (outP l v k ++ inP (l.getD k default) R (m + 1)).length := by (rw [e2]; simp only [List.length_append, List.length_cons, List.length_nil, Nat.add_zero, Nat.zero_add]) <;> omega
                  repeat' first
                    | (refine codeW_cond rfl ?_; first | (refine condW_dec ?_ ?_ <;> intro _ <;> try (exfalso; first | omega | (exact absurd (hq1.symm.trans (show (R.getD ((m : Int)).toNat default).2.2 = true by assumption)) (by decide)) | (exact absurd (hb1.symm.trans (show (l.getD ((k : Int)).toNat default).bounded = false by assumption)) (by decide)) | (exact absurd (hb2.symm.trans (show mb = false by assumption)) (by decide)))) | refine condW_not ?_ | (refine condW_bool ?_ ?_ <;> intro _ <;> try (exfalso; first | omega | (exact absurd (hq1.symm.trans (show (R.getD ((m : Int)).toNat default).2.2 = true by assumption)) (by decide)) | (exact absurd (hb1.symm.trans (show (l.getD ((k : Int)).toNat default).bounded = false by assumption)) (by decide)) | (exact absurd (hb2.symm.trans (show mb = false by assumption)) (by decide)))))
                    | (refine facW_intro ?_; intro _)
                    | refine Or.inl ?_
                    | ((conv => whnf); first | (refine condW_dec ?_ ?_ <;> intro _ <;> try (exfalso; first | omega | (exact absurd (hq1.symm.trans (show (R.getD ((m : Int)).toNat default).2.2 = true by assumption)) (by decide)) | (exact absurd (hb1.symm.trans (show (l.getD ((k : Int)).toNat default).bounded = false by assumption)) (by decide)) | (exact absurd (hb2.symm.trans (show mb = false by assumption)) (by decide)))) | refine condW_not ?_ | (refine condW_bool ?_ ?_ <;> intro _ <;> try (exfalso; first | omega | (exact absurd (hq1.symm.trans (show (R.getD ((m : Int)).toNat default).2.2 = true by assumption)) (by decide)) | (exact absurd (hb1.symm.trans (show (l.getD ((k : Int)).toNat default).bounded = false by assumption)) (by decide)) | (exact absurd (hb2.symm.trans (show mb = false by assumption)) (by decide)))) | (refine nbC_t (fun _ => ?_) ?_) | (refine nbC_f ?_ (fun _ => ?_)))
                    | refine And.intro (by first | omega | (simp only [Int.toNat_natCast] at *; omega) | (simp only [Nat.reduceAdd, Int.cast_ofNat_Int, true_and, and_true]; omega) | kernel_rfl) ?_
                    | refine RegW.run ?_
                    | refine ⟨_, hme, ?_⟩
                    | refine ⟨_, hco, ?_⟩
                    | fail
                  all_goals first
                    | (exfalso; exact absurd (hq1.symm.trans (show (R.getD ((m : Int)).toNat default).2.2 = true by assumption)) (by decide))
                    | (exfalso; exact absurd (hb1.symm.trans (show (l.getD ((k : Int)).toNat default).bounded = false by assumption)) (by decide))
                    | (exfalso; exact absurd (hb2.symm.trans (show mb = false by assumption)) (by decide))
                    | (exfalso; omega)
                    | exact ⟨m + 1, by omega, ⟨[(40, some 114)], ⟨by kernel_rfl, by kernel_rfl, by kernel_rfl, by kernel_rfl, by kernel_rfl, by kernel_rfl, by kernel_rfl⟩, (by repeat' first | (exact e3) | exact trivial | exact rfl | kernel_rfl | exact Dle.of_eq rfl | exact MLe.of_eq rfl | exact Dle.i (by omega) | exact Dle.i (by simp only [Int.toNat_natCast] at *; omega) | exact Dle.nil | exact Dle.rc Dle.nil | exact Option.some_ne_none _ | exact Or.inl rfl | exact Or.inr trivial | omega | (simp only [Int.toNat_natCast] at *; omega) | (intro _ _ _ _; exact Dle.of_eq rfl) | (intro i j hi hj; (rw [e2]; exact row_q E (outP l v k ++ inP (l.getD k default) R m) (_, _) _ rfl i j hi hj)) | refine And.intro ?_ ?_)⟩, by first | omega | (dsimp only; omega)⟩
                    | trace_state
                · rw [if_neg hO] at eR
                  by_cases hx : 0 ≤ ix
                  · rw [if_pos hx, List.append_nil] at eR
                    have e2 : (outP l v k ++ inP (l.getD k default) R (m + 1)) = (outP l v k ++ inP (l.getD k default) R m) ++ [((R.getD ((m : Int)).toNat default).1, 4)] := by rw [eI, eR, List.append_assoc]
                    have e3 : (outP l v k ++ inP (l.getD k default) R m).length + 1 = (outP l v k ++ inP (l.getD k default) R (m + 1)).length := by (rw [e2]; simp only [List.length_append, List.length_cons, List.length_nil, Nat.add_zero, Nat.zero_add]) <;> omega
                    repeat' first
                      | (refine codeW_cond rfl ?_; first | (refine condW_dec ?_ ?_ <;> intro _ <;> try (exfalso; first | omega | (exact absurd (hq1.symm.trans (show (R.getD ((m : Int)).toNat default).2.2 = true by assumption)) (by decide)) | (exact absurd (hb1.symm.trans (show (l.getD ((k : Int)).toNat default).bounded = false by assumption)) (by decide)) | (exact absurd (hb2.symm.trans (show mb = false by assumption)) (by decide)))) | refine condW_not ?_ | (refine condW_bool ?_ ?_ <;> intro _ <;> try (exfalso; first | omega | (exact absurd (hq1.symm.trans (show (R.getD ((m : Int)).toNat default).2.2 = true by assumption)) (by decide)) | (exact absurd (hb1.symm.trans (show (l.getD ((k : Int)).toNat default).bounded = false by assumption)) (by decide)) | (exact absurd (hb2.symm.trans (show mb = false by assumption)) (by decide)))))
                      | (refine facW_intro ?_; intro _)
                      | refine Or.inl ?_
                      | ((conv => whnf); first | (refine condW_dec ?_ ?_ <;> intro _ <;> try (exfalso; first | omega | (exact absurd (hq1.symm.trans (show (R.getD ((m : Int)).toNat default).2.2 = true by assumption)) (by decide)) | (exact absurd (hb1.symm.trans (show (l.getD ((k : Int)).toNat default).bounded = false by assumption)) (by decide)) | (exact absurd (hb2.symm.trans (show mb = false by assumption)) (by decide)))) | refine condW_not ?_ | (refine condW_bool ?_ ?_ <;> intro _ <;> try (exfalso; first | omega | (exact absurd (hq1.symm.trans (show (R.getD ((m : Int)).toNat default).2.2 = true by assumption)) (by decide)) | (exact absurd (hb1.symm.trans (show (l.getD ((k : Int)).toNat default).bounded = false by assumption)) (by decide)) | (exact absurd (hb2.symm.trans (show mb = false by assumption)) (by decide)))) | (refine nbC_t (fun _ => ?_) ?_) | (refine nbC_f ?_ (fun _ => ?_)))
                      | refine And.intro (by first | omega | (simp only [Int.toNat_natCast] at *; omega) | (simp only [Nat.reduceAdd, Int.cast_ofNat_Int, true_and, and_true]; omega) | kernel_rfl) ?_
                      | refine RegW.run ?_
                      | refine ⟨_, hme, ?_⟩
                      | refine ⟨_, hco, ?_⟩
                      | fail
                    all_goals first
                      | (exfalso; exact absurd (hq1.symm.trans (show (R.getD ((m : Int)).toNat default).2.2 = true by assumption)) (by decide))
                      | (exfalso; exact absurd (hb1.symm.trans (show (l.getD ((k : Int)).toNat default).bounded = false by assumption)) (by decide))
                      | (exfalso; exact absurd (hb2.symm.trans (show mb = false by assumption)) (by decide))
                      | (exfalso; omega)
                      | (exfalso; exact hcx (by assumption))
                      | exact ⟨m + 1, by omega, ⟨[(40, some 114)], ⟨by kernel_rfl, by kernel_rfl, by kernel_rfl, by kernel_rfl, by kernel_rfl, by kernel_rfl, by kernel_rfl⟩, (by repeat' first | (exact e3) | exact trivial | exact rfl | kernel_rfl | exact Dle.of_eq rfl | exact MLe.of_eq rfl | exact Dle.i (by omega) | exact Dle.i (by simp only [Int.toNat_natCast] at *; omega) | exact Dle.nil | exact Dle.rc Dle.nil | exact Option.some_ne_none _ | exact Or.inl rfl | exact Or.inr trivial | omega | (simp only [Int.toNat_natCast] at *; omega) | (intro _ _ _ _; exact Dle.of_eq rfl) | (intro i j hi hj; (rw [e2]; exact row_q E (outP l v k ++ inP (l.getD k default) R m) (_, _) _ rfl i j hi hj)) | refine And.intro ?_ ?_)⟩, by first | omega | (dsimp only; omega)⟩
                      | trace_state
                  · rw [if_neg hx] at eR
                    have e2 : (outP l v k ++ inP (l.getD k default) R (m + 1)) = (outP l v k ++ inP (l.getD k default) R m) ++ [((R.getD ((m : Int)).toNat default).1, 4)] ++ [((R.getD ((m : Int)).toNat default).1, 5)] := by rw [eI, eR, List.append_assoc, List.append_assoc]
                    have e3 : (outP l v k ++ inP (l.getD k default) R m).length + 2 = (outP l v k ++ inP (l.getD k default) R (m + 1)).length := by (rw [e2]; simp only [List.length_append, List.length_cons, List.length_nil, Nat.add_zero, Nat.zero_add]) <;> omega
                    repeat' first
                      | (refine codeW_cond rfl ?_; first | (refine condW_dec ?_ ?_ <;> intro _ <;> try (exfalso; first | omega | (exact absurd (hq1.symm.trans (show (R.getD ((m : Int)).toNat default).2.2 = true by assumption)) (by decide)) | (exact absurd (hb1.symm.trans (show (l.getD ((k : Int)).toNat default).bounded = false by assumption)) (by decide)) | (exact absurd (hb2.symm.trans (show mb = false by assumption)) (by decide)))) | refine condW_not ?_ | (refine condW_bool ?_ ?_ <;> intro _ <;> try (exfalso; first | omega | (exact absurd (hq1.symm.trans (show (R.getD ((m : Int)).toNat default).2.2 = true by assumption)) (by decide)) | (exact absurd (hb1.symm.trans (show (l.getD ((k : Int)).toNat default).bounded = false by assumption)) (by decide)) | (exact absurd (hb2.symm.trans (show mb = false by assumption)) (by decide)))))
                      | (refine facW_intro ?_; intro _)
                      | refine Or.inl ?_
                      | ((conv => whnf); first | (refine condW_dec ?_ ?_ <;> intro _ <;> try (exfalso; first | omega | (exact absurd (hq1.symm.trans (show (R.getD ((m : Int)).toNat default).2.2 = true by assumption)) (by decide)) | (exact absurd (hb1.symm.trans (show (l.getD ((k : Int)).toNat default).bounded = false by assumption)) (by decide)) | (exact absurd (hb2.symm.trans (show mb = false by assumption)) (by decide)))) | refine condW_not ?_ | (refine condW_bool ?_ ?_ <;> intro _ <;> try (exfalso; first | omega | (exact absurd (hq1.symm.trans (show (R.getD ((m : Int)).toNat default).2.2 = true by assumption)) (by decide)) | (exact absurd (hb1.symm.trans (show (l.getD ((k : Int)).toNat default).bounded = false by assumption)) (by decide)) | (exact absurd (hb2.symm.trans (show mb = false by assumption)) (by decide)))) | (refine nbC_t (fun _ => ?_) ?_) | (refine nbC_f ?_ (fun _ => ?_)))
                      | refine And.intro (by first | omega | (simp only [Int.toNat_natCast] at *; omega) | (simp only [Nat.reduceAdd, Int.cast_ofNat_Int, true_and, and_true]; omega) | kernel_rfl) ?_
                      | refine RegW.run ?_
                      | refine ⟨_, hme, ?_⟩
                      | refine ⟨_, hco, ?_⟩
                      | fail
                    all_goals first
                      | (exfalso; exact absurd (hq1.symm.trans (show (R.getD ((m : Int)).toNat default).2.2 = true by assumption)) (by decide))
                      | (exfalso; exact absurd (hb1.symm.trans (show (l.getD ((k : Int)).toNat default).bounded = false by assumption)) (by decide))
                      | (exfalso; exact absurd (hb2.symm.trans (show mb = false by assumption)) (by decide))
                      | (exfalso; omega)
                      | exact ⟨m + 1, by omega, ⟨[(40, some 139)], ⟨by kernel_rfl, by kernel_rfl, by kernel_rfl, by kernel_rfl, by kernel_rfl, by kernel_rfl, by kernel_rfl⟩, (by repeat' first | (exact e3) | exact trivial | exact rfl | kernel_rfl | exact Dle.of_eq rfl | exact MLe.of_eq rfl | exact Dle.i (by omega) | exact Dle.i (by simp only [Int.toNat_natCast] at *; omega) | exact Dle.nil | exact Dle.rc Dle.nil | exact Option.some_ne_none _ | exact Or.inl rfl | exact Or.inr trivial | omega | (simp only [Int.toNat_natCast] at *; omega) | (intro _ _ _ _; exact Dle.of_eq rfl) | (intro i j hi hj; (rw [e2]; exact row_q2 E (outP l v k ++ inP (l.getD k default) R m) (_, _) (_, _) _ _ rfl rfl i j hi hj)) | refine And.intro ?_ ?_)⟩, by first | omega | (dsimp only; omega)⟩
                      | trace_state
        · obtain rfl : m = R.length := by omega
          have e4 := inP_all (l.getD k default) R (Nat.le_refl _)
          rw [← e4] at e2
          have e5 := congrArg List.length e2
          repeat' first
            | (refine codeW_cond rfl ?_; first | (refine condW_dec ?_ ?_ <;> intro _ <;> try (exfalso; omega)) | refine condW_not ?_ | (refine condW_bool ?_ ?_ <;> intro _ <;> try (exfalso; omega)))
            | (refine facW_intro ?_; intro _)
            | refine Or.inl ?_
            | ((conv => whnf); first | (refine condW_dec ?_ ?_ <;> intro _ <;> try (exfalso; omega)) | refine condW_not ?_ | (refine condW_bool ?_ ?_ <;> intro _ <;> try (exfalso; omega)) | (refine nbC_t (fun _ => ?_) ?_) | (refine nbC_f ?_ (fun _ => ?_)))
            | refine And.intro (by first | omega | (simp only [Int.toNat_natCast] at *; omega) | (simp only [Nat.reduceAdd, Int.cast_ofNat_Int, true_and, and_true]; omega) | kernel_rfl) ?_
            | refine RegW.run ?_
            | fail
          all_goals first
            | exact ⟨k + 1, by omega, ⟨[(30, some 40)], ⟨by kernel_rfl, by kernel_rfl, by kernel_rfl, by kernel_rfl, by kernel_rfl, by kernel_rfl, by kernel_rfl⟩, (by repeat' first | (exact e5.symm) | exact trivial | exact rfl | kernel_rfl | exact Dle.of_eq rfl | exact MLe.of_eq rfl | exact Dle.i (by omega) | exact Dle.i (by simp only [Int.toNat_natCast] at *; omega) | exact Dle.nil | exact Dle.rc Dle.nil | exact Option.some_ne_none _ | exact Or.inl rfl | exact Or.inr trivial | omega | (simp only [Int.toNat_natCast] at *; omega) | (intro _ _ _ _; exact Dle.of_eq rfl) | (intro i j hi hj; (rw [e2]; exact Dle.refl _ _)) | refine And.intro ?_ ?_)⟩, by first | omega | (dsimp only; omega)⟩
            | trace_state
      · obtain rfl : k = l.length := by omega
        have hO := hOL l.length
        cases b
        · rw [if_neg (by decide), List.append_nil] at hq
          subst hq
          repeat' first
            | (refine codeW_cond rfl ?_; first | (refine condW_dec ?_ ?_ <;> intro _ <;> try (exfalso; omega)) | refine condW_not ?_ | (refine condW_bool ?_ ?_ <;> intro _ <;> try (exfalso; omega)))
            | (refine facW_intro ?_; intro _)
            | refine Or.inl ?_
            | ((conv => whnf); first | (refine condW_dec ?_ ?_ <;> intro _ <;> try (exfalso; omega)) | refine condW_not ?_ | (refine condW_bool ?_ ?_ <;> intro _ <;> try (exfalso; omega)) | (refine nbC_t (fun _ => ?_) ?_) | (refine nbC_f ?_ (fun _ => ?_)))
            | refine And.intro (by first | omega | (simp only [Int.toNat_natCast] at *; omega) | (simp only [Nat.reduceAdd, Int.cast_ofNat_Int, true_and, and_true]; omega) | kernel_rfl) ?_
            | refine RegW.run ?_
            | fail
          all_goals first
            | exact Dle.tup (X := (cx Tryz.prog mixed tyT_ok E)) ⟨Dle.sl (X := (cx Tryz.prog mixed tyT_ok E)) rfl (fun i j hi hj => Dle.refl _ _), Dle.refl _ _, trivial⟩
            | trace_state
        · rw [if_pos rfl] at hq
          subst hq
          have hz0 : outP l v l.length ++ unkP l rs 0 = outP l v l.length := List.append_nil _
          have hz : (outP l v l.length).length = (outP l v l.length ++ unkP l rs 0).length := by rw [hz0]
          have hR3 : Sp (cx Tryz.prog mixed tyT_ok E) 49 [encV v, dS ⟨#[]⟩] (encStrs rs) := hR2
          repeat' first
            | (refine codeW_cond rfl ?_; first | (refine condW_dec ?_ ?_ <;> intro _ <;> try (exfalso; omega)) | refine condW_not ?_ | (refine condW_bool ?_ ?_ <;> intro _ <;> try (exfalso; omega)))
            | (refine facW_intro ?_; intro _)
            | refine Or.inl ?_
            | ((conv => whnf); first | (refine condW_dec ?_ ?_ <;> intro _ <;> try (exfalso; omega)) | refine condW_not ?_ | (refine condW_bool ?_ ?_ <;> intro _ <;> try (exfalso; omega)) | (refine nbC_t (fun _ => ?_) ?_) | (refine nbC_f ?_ (fun _ => ?_)))
            | refine And.intro (by first | omega | (simp only [Int.toNat_natCast] at *; omega) | (simp only [Nat.reduceAdd, Int.cast_ofNat_Int, true_and, and_true]; omega) | kernel_rfl) ?_
            | refine RegW.run ?_
            | refine ⟨_, hR3, ?_⟩
            | fail
          refine ⟨Nat, fun m => [(147, i64 m), (8, .own 147 2 0 (outP l v l.length ++ unkP l rs m).length)], fun m => [], [2, 3], fun m => [(147, 95, (outP l v l.length ++ unkP l rs m).length, rowQ (outP l v l.length ++ unkP l rs m))], fun m => m ≤ rs.length, fun m => rs.length - m, ⟨0, by omega, ⟨[(147, some 30)], ⟨by kernel_rfl, by kernel_rfl, by kernel_rfl, by kernel_rfl, by kernel_rfl, by kernel_rfl, by kernel_rfl⟩, (by repeat' first | ((first | exact hz | (intro i j hi hj; exact Dle.of_eq (by rw [hz0])))) | exact trivial | exact rfl | kernel_rfl | exact Dle.of_eq rfl | exact MLe.of_eq rfl | exact Dle.i (by omega) | exact Dle.i (by simp only [Int.toNat_natCast] at *; omega) | exact Dle.nil | exact Dle.rc Dle.nil | exact Option.some_ne_none _ | exact Or.inl rfl | exact Or.inr trivial | omega | (simp only [Int.toNat_natCast] at *; omega) | (intro _ _ _ _; exact Dle.of_eq rfl) | refine And.intro ?_ ?_)⟩⟩, fun m hm => ?_⟩
          have hm : m ≤ rs.length := hm
          by_cases hmt : m < rs.length
          · have g1 := hUL m
            have g2 := hrs _ (getD_mem rs ⟨#[]⟩ m hmt)
            have g3 : (⟨#[]⟩ : ByteArray).size = 0 := rfl
            have hl3 : (outP l v l.length ++ unkP l rs m).length = (outP l v l.length).length + (unkP l rs m).length := List.length_append
            have hcn := containsM_sp E hML l (rs.getD m ⟨#[]⟩) (fun f hf => by have := (hl2 f hf).2.2.1; omega) (by omega)
            have eU := unkP_succ (l := l) hmt
            unfold unk at eU
            cases hb : knownB l (rs.getD m ⟨#[]⟩)
            · rw [hb, if_neg (by decide)] at eU
              rw [hb] at hcn
              have e2 : outP l v l.length ++ unkP l rs (m + 1) = outP l v l.length ++ unkP l rs m ++ [(rs.getD m ⟨#[]⟩, 6)] := by rw [eU, List.append_assoc]
              have e3 : (outP l v l.length ++ unkP l rs m).length + 1 = (outP l v l.length ++ unkP l rs (m + 1)).length := by (rw [e2]; simp only [List.length_append, List.length_cons, List.length_nil, Nat.zero_add]) <;> omega
              repeat' first
                | (refine codeW_cond rfl ?_; first | (refine condW_dec ?_ ?_ <;> intro _ <;> try (exfalso; omega)) | refine condW_not ?_ | (refine condW_bool ?_ ?_ <;> intro _ <;> try (exfalso; omega)))
                | (refine facW_intro ?_; intro _)
                | refine Or.inl ?_
                | ((conv => whnf); first | (refine condW_dec ?_ ?_ <;> intro _ <;> try (exfalso; omega)) | refine condW_not ?_ | (refine condW_bool ?_ ?_ <;> intro _ <;> try (exfalso; omega)) | (refine nbC_t (fun _ => ?_) ?_) | (refine nbC_f ?_ (fun _ => ?_)))
                | refine And.intro (by first | omega | (simp only [Int.toNat_natCast] at *; omega) | (simp only [Nat.reduceAdd, Int.cast_ofNat_Int, true_and, and_true]; omega) | kernel_rfl) ?_
                | refine RegW.run ?_
                | refine ⟨_, hcn, ?_⟩
                | fail
              all_goals first
                | exact ⟨m + 1, by omega, ⟨[(147, some 160)], ⟨by kernel_rfl, by kernel_rfl, by kernel_rfl, by kernel_rfl, by kernel_rfl, by kernel_rfl, by kernel_rfl⟩, (by repeat' first | (exact e3) | exact trivial | exact rfl | kernel_rfl | exact Dle.of_eq rfl | exact MLe.of_eq rfl | exact Dle.i (by omega) | exact Dle.i (by simp only [Int.toNat_natCast] at *; omega) | exact Dle.nil | exact Dle.rc Dle.nil | exact Option.some_ne_none _ | exact Or.inl rfl | exact Or.inr trivial | omega | (simp only [Int.toNat_natCast] at *; omega) | (intro _ _ _ _; exact Dle.of_eq rfl) | (intro i j hi hj; (rw [e2]; exact row_q E (outP l v l.length ++ unkP l rs m) (_, _) _ rfl i j hi hj)) | refine And.intro ?_ ?_)⟩, by first | omega | (dsimp only; omega)⟩
                | trace_state
            · rw [hb, if_pos rfl, List.append_nil] at eU
              rw [hb] at hcn
              have e2 : outP l v l.length ++ unkP l rs (m + 1) = outP l v l.length ++ unkP l rs m := by rw [eU]
              have e3 := (congrArg List.length e2).symm
              repeat' first
                | (refine codeW_cond rfl ?_; first | (refine condW_dec ?_ ?_ <;> intro _ <;> try (exfalso; omega)) | refine condW_not ?_ | (refine condW_bool ?_ ?_ <;> intro _ <;> try (exfalso; omega)))
                | (refine facW_intro ?_; intro _)
                | refine Or.inl ?_
                | ((conv => whnf); first | (refine condW_dec ?_ ?_ <;> intro _ <;> try (exfalso; omega)) | refine condW_not ?_ | (refine condW_bool ?_ ?_ <;> intro _ <;> try (exfalso; omega)) | (refine nbC_t (fun _ => ?_) ?_) | (refine nbC_f ?_ (fun _ => ?_)))
                | refine And.intro (by first | omega | (simp only [Int.toNat_natCast] at *; omega) | (simp only [Nat.reduceAdd, Int.cast_ofNat_Int, true_and, and_true]; omega) | kernel_rfl) ?_
                | refine RegW.run ?_
                | refine ⟨_, hcn, ?_⟩
                | fail
              all_goals first
                | exact ⟨m + 1, by omega, ⟨[(147, some 147)], ⟨by kernel_rfl, by kernel_rfl, by kernel_rfl, by kernel_rfl, by kernel_rfl, by kernel_rfl, by kernel_rfl⟩, (by repeat' first | (exact e3) | exact trivial | exact rfl | kernel_rfl | exact Dle.of_eq rfl | exact MLe.of_eq rfl | exact Dle.i (by omega) | exact Dle.i (by simp only [Int.toNat_natCast] at *; omega) | exact Dle.nil | exact Dle.rc Dle.nil | exact Option.some_ne_none _ | exact Or.inl rfl | exact Or.inr trivial | omega | (simp only [Int.toNat_natCast] at *; omega) | (intro _ _ _ _; exact Dle.of_eq rfl) | (intro i j hi hj; (rw [e2]; exact Dle.refl _ _)) | refine And.intro ?_ ?_)⟩, by first | omega | (dsimp only; omega)⟩
                | trace_state
          · obtain rfl : m = rs.length := by omega
            repeat' first
              | (refine codeW_cond rfl ?_; first | (refine condW_dec ?_ ?_ <;> intro _ <;> try (exfalso; omega)) | refine condW_not ?_ | (refine condW_bool ?_ ?_ <;> intro _ <;> try (exfalso; omega)))
              | (refine facW_intro ?_; intro _)
              | refine Or.inl ?_
              | ((conv => whnf); first | (refine condW_dec ?_ ?_ <;> intro _ <;> try (exfalso; omega)) | refine condW_not ?_ | (refine condW_bool ?_ ?_ <;> intro _ <;> try (exfalso; omega)) | (refine nbC_t (fun _ => ?_) ?_) | (refine nbC_f ?_ (fun _ => ?_)))
              | refine And.intro (by first | omega | (simp only [Int.toNat_natCast] at *; omega) | (simp only [Nat.reduceAdd, Int.cast_ofNat_Int, true_and, and_true]; omega) | kernel_rfl) ?_
              | refine RegW.run ?_
              | fail
            all_goals first
              | exact Dle.tup (X := (cx Tryz.prog mixed tyT_ok E)) ⟨Dle.sl (X := (cx Tryz.prog mixed tyT_ok E)) rfl (fun i j hi hj => Dle.refl _ _), Dle.refl _ _, trivial⟩
              | trace_state
    · rw [if_pos h0] at hq
      subst hq
      rw [hs] at h1
      generalize checkE v = c at h2 h0
      refine Sp.body Tryz.func9 (by kernel_rfl) rfl (by kernel_rfl) (by kernel_rfl) (by kernel_rfl) ?_
      repeat' first
        | (refine codeW_cond rfl ?_; first | (refine condW_dec ?_ ?_ <;> intro _ <;> try (exfalso; omega)) | refine condW_not ?_ | (refine condW_bool ?_ ?_ <;> intro _ <;> try (exfalso; omega)))
        | (refine facW_intro ?_; intro _)
        | refine Or.inl ?_
        | ((conv => whnf); first | (refine condW_dec ?_ ?_ <;> intro _ <;> try (exfalso; omega)) | refine condW_not ?_ | (refine condW_bool ?_ ?_ <;> intro _ <;> try (exfalso; omega)) | (refine nbC_t (fun _ => ?_) ?_) | (refine nbC_f ?_ (fun _ => ?_)))
        | refine And.intro (by first | omega | (simp only [Int.toNat_natCast] at *; omega) | (simp only [Nat.reduceAdd, Int.cast_ofNat_Int, true_and, and_true]; omega) | kernel_rfl) ?_
        | refine RegW.run ?_
        | refine ⟨_, h1, ?_⟩
        | refine ⟨_, h2, ?_⟩
        | fail
      all_goals first
        | (exfalso; rename_i h; exact h rfl)
        | exact Dle.tup (X := (cx Tryz.prog mixed tyT_ok E)) ⟨Dle.nil (X := (cx Tryz.prog mixed tyT_ok E)), Dle.refl _ _, trivial⟩
        | trace_state
  · rw [if_pos hs] at hq
    subst hq
    generalize schemaE l = c at h1 hs
    refine Sp.body Tryz.func9 (by kernel_rfl) rfl (by kernel_rfl) (by kernel_rfl) (by kernel_rfl) ?_
    repeat' first
      | (refine codeW_cond rfl ?_; first | (refine condW_dec ?_ ?_ <;> intro _ <;> try (exfalso; omega)) | refine condW_not ?_ | (refine condW_bool ?_ ?_ <;> intro _ <;> try (exfalso; omega)))
      | (refine facW_intro ?_; intro _)
      | refine Or.inl ?_
      | ((conv => whnf); first | (refine condW_dec ?_ ?_ <;> intro _ <;> try (exfalso; omega)) | refine condW_not ?_ | (refine condW_bool ?_ ?_ <;> intro _ <;> try (exfalso; omega)) | (refine nbC_t (fun _ => ?_) ?_) | (refine nbC_f ?_ (fun _ => ?_)))
      | refine And.intro (by first | omega | (simp only [Int.toNat_natCast] at *; omega) | (simp only [Nat.reduceAdd, Int.cast_ofNat_Int, true_and, and_true]; omega) | kernel_rfl) ?_
      | refine RegW.run ?_
      | refine ⟨_, h1, ?_⟩
      | refine ⟨_, h2, ?_⟩
      | fail
    all_goals first
      | (exfalso; rename_i h; exact h rfl)
      | exact Dle.tup (X := (cx Tryz.prog mixed tyT_ok E)) ⟨Dle.nil (X := (cx Tryz.prog mixed tyT_ok E)), Dle.refl _ _, trivial⟩
      | trace_state
end
end ft
end Go.Proofs.YtilfmjldcigagaaGreatDoor
