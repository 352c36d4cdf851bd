/-
  Faults of a value by a schema: Alike over faults; routes that are known.
-/
import Derived.Test.YtilfmjldcigagaaGreatDoorFt7
import Derived.Test.YtilfmjldcigagaaGreatDoorM2
namespace Go.Proofs.YtilfmjldcigagaaGreatDoor
open Go.RowKit
set_option linter.unusedVariables false
set_option pp.maxSteps 300
set_option linter.unusedSimpArgs false
namespace ft
section
variable (E : Env)
set_option maxRecDepth 100000
theorem eqFlts_sp (l : List Flt) : Sp (cx Tryz.prog mixed tyT_ok E) 36 [encQ l, encQ l] (dB true) := by
  refine Sp.body Tryz.func36 (by kernel_rfl) rfl (by kernel_rfl) (by kernel_rfl) (by kernel_rfl) ?_
  repeat' first
    | (refine facW_intro ?_; intro _)
    | refine Or.inl ?_
    | ((conv => whnf); first | (refine condW_dec ?_ ?_ <;> intro _ <;> try (exfalso; omega)) | refine condW_not ?_ | (refine condW_bool ?_ ?_ <;> intro _ <;> try (exfalso; omega)) | (refine nbC_t (fun _ => ?_) ?_) | (refine nbC_f ?_ (fun _ => ?_)))
    | refine And.intro (by first | omega | (simp only [Int.toNat_natCast] at *; omega) | (simp only [Nat.reduceAdd, Int.cast_ofNat_Int, true_and, and_true]; omega) | kernel_rfl) ?_
    | refine RegW.run ?_
    | fail
  all_goals try (exfalso; rename_i h; exact h rfl)
  refine ⟨Nat, fun k => [(13, i64 k)], fun k => [], [], fun k => [], fun k => k ≤ l.length, fun k => l.length - k, ⟨0, by omega, ⟨[], ⟨by kernel_rfl, by kernel_rfl, by kernel_rfl, by kernel_rfl, by kernel_rfl, by kernel_rfl, by kernel_rfl⟩, (by repeat' first | exact trivial | exact rfl | kernel_rfl | exact Dle.of_eq rfl | exact MLe.of_eq rfl | exact Dle.i (by omega) | exact Dle.i (by simp only [Int.toNat_natCast] at *; omega) | exact Dle.nil | exact Dle.rc Dle.nil | exact Option.some_ne_none _ | exact Or.inl rfl | exact Or.inr trivial | omega | (simp only [Int.toNat_natCast] at *; omega) | (intro _ _ _ _; exact Dle.of_eq rfl) | refine And.intro ?_ ?_)⟩⟩, fun k hk => ?_⟩
  have hk : k ≤ l.length := hk
  repeat' first
    | (refine facW_intro ?_; intro _)
    | refine Or.inl ?_
    | ((conv => whnf); first | (refine condW_dec ?_ ?_ <;> intro _ <;> try (exfalso; omega)) | refine condW_not ?_ | (refine condW_bool ?_ ?_ <;> intro _ <;> try (exfalso; omega)) | (refine nbC_t (fun _ => ?_) ?_) | (refine nbC_f ?_ (fun _ => ?_)))
    | refine And.intro (by first | omega | (simp only [Int.toNat_natCast] at *; omega) | (simp only [Nat.reduceAdd, Int.cast_ofNat_Int, true_and, and_true]; omega) | kernel_rfl) ?_
    | refine RegW.run ?_
    | fail
  all_goals first
    | (exfalso; rename_i h; exact h rfl)
    | (exfalso; rename_i h; simp [valEq] at h; done)
    | exact ⟨k + 1, by omega, ⟨[], ⟨by kernel_rfl, by kernel_rfl, by kernel_rfl, by kernel_rfl, by kernel_rfl, by kernel_rfl, by kernel_rfl⟩, (by repeat' first | exact trivial | exact rfl | kernel_rfl | exact Dle.of_eq rfl | exact MLe.of_eq rfl | exact Dle.i (by omega) | exact Dle.i (by simp only [Int.toNat_natCast] at *; omega) | exact Dle.nil | exact Dle.rc Dle.nil | exact Option.some_ne_none _ | exact Or.inl rfl | exact Or.inr trivial | omega | (simp only [Int.toNat_natCast] at *; omega) | (intro _ _ _ _; exact Dle.of_eq rfl) | refine And.intro ?_ ?_)⟩, by first | omega | (dsimp only; omega)⟩
    | exact Dle.refl _ _
    | trace_state
theorem alikeFlts_sp (l : List Flt) : Sp (cx Tryz.prog mixed tyT_ok E) 7 [.ifc 34 (encQ l), .ifc 34 (encQ l)] (dB true) := by
  have h1 := eqFlts_sp E l
  refine Sp.body Tryz.func7 (by kernel_rfl) rfl (by kernel_rfl) (by kernel_rfl) (by kernel_rfl) ?_
  repeat' first
    | (refine facW_intro ?_; intro _)
    | refine Or.inl ?_
    | ((conv => whnf); first | (refine condW_dec ?_ ?_ <;> intro _ <;> try (exfalso; omega)) | refine condW_not ?_ | (refine condW_bool ?_ ?_ <;> intro _ <;> try (exfalso; omega)) | (refine nbC_t (fun _ => ?_) ?_) | (refine nbC_f ?_ (fun _ => ?_)))
    | refine And.intro (by first | omega | (simp only [Int.toNat_natCast] at *; omega) | (simp only [Nat.reduceAdd, Int.cast_ofNat_Int, true_and, and_true]; omega) | kernel_rfl) ?_
    | refine RegW.run ?_
    | refine ⟨_, h1, ?_⟩
    | fail
  all_goals first
    | (exfalso; rename_i h; exact h rfl)
    | exact Dle.refl _ _
    | trace_state
theorem closure_sp (hML : ∀ w, E.G w → ML w) (f : Fd) (r : ByteArray) (hf : f.route.size ≤ 1000000000) (hr : r.size ≤ 1000000000) : Sp (cx Tryz.prog mixed tyT_ok E) 51 [encF f, .ref 1 (fun j => ([dS r] : List DD).getD (0 + j) .opq)] (dB (matR f.route r)) := by
  have h1 := matchesRoute_sp E hML f.route r hf hr
  generalize matR f.route r = b at h1
  refine Sp.body Tryz.func51 (by kernel_rfl) rfl (by kernel_rfl) (by kernel_rfl) (by kernel_rfl) ?_
  repeat' first
    | (refine facW_intro ?_; intro _)
    | refine Or.inl ?_
    | ((conv => whnf); first | (refine condW_dec ?_ ?_ <;> intro _ <;> try (exfalso; omega)) | refine condW_not ?_ | (refine condW_bool ?_ ?_ <;> intro _ <;> try (exfalso; omega)) | (refine nbC_t (fun _ => ?_) ?_) | (refine nbC_f ?_ (fun _ => ?_)))
    | refine And.intro (by first | omega | (simp only [Int.toNat_natCast] at *; omega) | (simp only [Nat.reduceAdd, Int.cast_ofNat_Int, true_and, and_true]; omega) | kernel_rfl) ?_
    | refine RegW.run ?_
    | refine ⟨_, h1, ?_⟩
    | fail
  all_goals first
    | exact Dle.refl _ _
    | trace_state
def idxM (l : List Fd) (r : ByteArray) (k : Nat) : Int := if k < l.length then (if matR (l.getD k default).route r = true then (k : Int) else idxM l r (k + 1)) else -1
  termination_by l.length - k
theorem idxM_end {l : List Fd} {r : ByteArray} {k : Nat} (h : ¬ k < l.length) : idxM l r k = -1 := by rw [idxM, if_neg h]
theorem idxM_at {l : List Fd} {r : ByteArray} {k : Nat} (h : k < l.length) (h2 : matR (l.getD k default).route r = true) : idxM l r k = k := by rw [idxM, if_pos h, if_pos h2]
theorem idxM_next {l : List Fd} {r : ByteArray} {k : Nat} (h : k < l.length) (h2 : matR (l.getD k default).route r = false) : idxM l r k = idxM l r (k + 1) := by rw [idxM, if_pos h, if_neg (by rw [h2]; decide)]
theorem idxM_any (l : List Fd) (r : ByteArray) : ∀ (n k : Nat), l.length - k < n → decide (0 ≤ idxM l r k) = (l.drop k).any (fun f => matR f.route r)
  | 0, k, h => by omega
  | n + 1, k, h => by
    by_cases hk : k < l.length
    · rw [drop_cons l default k hk, List.any_cons]
      cases hm : matR (l.getD k default).route r
      · rw [idxM_next hk hm, idxM_any l r n (k + 1) (by omega)]; rfl
      · rw [idxM_at hk hm]; simp
    · rw [idxM_end hk, List.drop_of_length_le (by omega)]; rfl
theorem indexM_sp (hML : ∀ w, E.G w → ML w) (l : List Fd) (r : ByteArray) (hl : ∀ f ∈ l, f.route.size ≤ 1000000000) (hr : r.size ≤ 1000000000) : Sp (cx Tryz.prog mixed tyT_ok E) 103 [encFs l, .fn 51 [.ref 1 (fun j => ([dS r] : List DD).getD (0 + j) .opq)]] (i64 (idxM l r 0)) := by
  obtain ⟨z, hz⟩ : ∃ z, z = idxM l r 0 := ⟨_, rfl⟩
  rw [← hz]
  refine Sp.body Tryz.func103 (by kernel_rfl) rfl (by kernel_rfl) (by kernel_rfl) (by kernel_rfl) ?_
  repeat' first
    | (refine facW_intro ?_; intro _)
    | refine Or.inl ?_
    | ((conv => whnf); first | (refine condW_dec ?_ ?_ <;> intro _) | refine condW_not ?_ | (refine condW_bool ?_ ?_ <;> intro _) | (refine nbC_t (fun _ => ?_) ?_) | (refine nbC_f ?_ (fun _ => ?_)))
    | refine And.intro (by first | omega | (simp only [Int.toNat_natCast] at *; omega) | (simp only [Nat.reduceAdd, Int.cast_ofNat_Int, true_and, and_true]; omega) | kernel_rfl) ?_
    | refine RegW.run ?_
    | fail
  refine ⟨Nat, fun k => [(8, i64 k)], fun k => [], [], fun k => [], fun k => k ≤ l.length ∧ z = idxM l r k, fun k => l.length - k, ⟨0, ⟨by omega, hz⟩, ⟨[], ⟨by kernel_rfl, by kernel_rfl, by kernel_rfl, by kernel_rfl, by kernel_rfl, by kernel_rfl, by kernel_rfl⟩, (by repeat' first | exact trivial | exact rfl | kernel_rfl | exact Dle.of_eq rfl | exact MLe.of_eq rfl | exact Dle.i (by omega) | exact Dle.i (by simp only [Int.toNat_natCast] at *; omega) | exact Dle.nil | exact Dle.rc Dle.nil | exact Option.some_ne_none _ | exact Or.inl rfl | exact Or.inr trivial | omega | (simp only [Int.toNat_natCast] at *; omega) | (intro _ _ _ _; exact Dle.of_eq rfl) | refine And.intro ?_ ?_)⟩⟩, fun k hk => ?_⟩
  obtain ⟨hk, hK⟩ := hk
  by_cases hlt : k < l.length
  · have h1 := closure_sp E hML (l.getD k default) r (hl _ (getD_mem l default k hlt)) hr
    cases hm : matR (l.getD k default).route r
    · rw [idxM_next hlt hm] at hK
      rw [hm] at h1
      repeat' first
        | (refine facW_intro ?_; intro _)
        | refine Or.inl ?_
        | ((conv => whnf); first | (refine condW_dec ?_ ?_ <;> intro _ <;> try (exfalso; omega)) | refine condW_not ?_ | (refine condW_bool ?_ ?_ <;> intro _ <;> try (exfalso; omega)) | (refine nbC_t (fun _ => ?_) ?_) | (refine nbC_f ?_ (fun _ => ?_)))
        | refine And.intro (by first | omega | (simp only [Int.toNat_natCast] at *; omega) | (simp only [Nat.reduceAdd, Int.cast_ofNat_Int, true_and, and_true]; omega) | kernel_rfl) ?_
        | refine RegW.run ?_
        | refine ⟨_, h1, ?_⟩
        | fail
      all_goals first
        | exact ⟨k + 1, ⟨by omega, hK⟩, ⟨[], ⟨by kernel_rfl, by kernel_rfl, by kernel_rfl, by kernel_rfl, by kernel_rfl, by kernel_rfl, by kernel_rfl⟩, (by repeat' first | exact trivial | exact rfl | kernel_rfl | exact Dle.of_eq rfl | exact MLe.of_eq rfl | exact Dle.i (by omega) | exact Dle.i (by simp only [Int.toNat_natCast] at *; omega) | exact Dle.nil | exact Dle.rc Dle.nil | exact Option.some_ne_none _ | exact Or.inl rfl | exact Or.inr trivial | omega | (simp only [Int.toNat_natCast] at *; omega) | (intro _ _ _ _; exact Dle.of_eq rfl) | refine And.intro ?_ ?_)⟩, by first | omega | (dsimp only; omega)⟩
        | trace_state
    · rw [idxM_at hlt hm] at hK
      rw [hm] at h1
      repeat' first
        | (refine facW_intro ?_; intro _)
        | refine Or.inl ?_
        | ((conv => whnf); first | (refine condW_dec ?_ ?_ <;> intro _ <;> try (exfalso; omega)) | refine condW_not ?_ | (refine condW_bool ?_ ?_ <;> intro _ <;> try (exfalso; omega)) | (refine nbC_t (fun _ => ?_) ?_) | (refine nbC_f ?_ (fun _ => ?_)))
        | refine And.intro (by first | omega | (simp only [Int.toNat_natCast] at *; omega) | (simp only [Nat.reduceAdd, Int.cast_ofNat_Int, true_and, and_true]; omega) | kernel_rfl) ?_
        | refine RegW.run ?_
        | refine ⟨_, h1, ?_⟩
        | fail
      all_goals first
        | exact Dle.i hK.symm
        | trace_state
  · rw [idxM_end hlt] at hK
    repeat' first
      | (refine facW_intro ?_; intro _)
      | refine Or.inl ?_
      | ((conv => whnf); first | (refine condW_dec ?_ ?_ <;> intro _ <;> try (exfalso; omega)) | refine condW_not ?_ | (refine condW_bool ?_ ?_ <;> intro _ <;> try (exfalso; omega)) | (refine nbC_t (fun _ => ?_) ?_) | (refine nbC_f ?_ (fun _ => ?_)))
      | refine And.intro (by first | omega | (simp only [Int.toNat_natCast] at *; omega) | (simp only [Nat.reduceAdd, Int.cast_ofNat_Int, true_and, and_true]; omega) | kernel_rfl) ?_
      | refine RegW.run ?_
      | fail
    all_goals first
      | exact Dle.i hK.symm
      | trace_state
theorem containsM_sp (hML : ∀ w, E.G w → ML w) (l : List Fd) (r : ByteArray) (hl : ∀ f ∈ l, f.route.size ≤ 1000000000) (hr : r.size ≤ 1000000000) : Sp (cx Tryz.prog mixed tyT_ok E) 50 [encFs l, .fn 51 [.ref 1 (fun j => ([dS r] : List DD).getD (0 + j) .opq)]] (dB (knownB l r)) := by
  have hi := indexM_sp E hML l r hl hr
  have e := idxM_any l r (l.length + 1) 0 (by omega)
  rw [List.drop_zero] at e
  have e2 : knownB l r = decide (0 ≤ idxM l r 0) := e.symm
  rw [e2]
  generalize idxM l r 0 = z at hi
  refine Sp.body Tryz.func50 (by kernel_rfl) rfl (by kernel_rfl) (by kernel_rfl) (by kernel_rfl) ?_
  repeat' first
    | (refine facW_intro ?_; intro _)
    | refine Or.inl ?_
    | ((conv => whnf); first | (refine condW_dec ?_ ?_ <;> intro _) | refine condW_not ?_ | (refine condW_bool ?_ ?_ <;> intro _) | (refine nbC_t (fun _ => ?_) ?_) | (refine nbC_f ?_ (fun _ => ?_)))
    | refine And.intro (by first | omega | (simp only [Int.toNat_natCast] at *; omega) | (simp only [Nat.reduceAdd, Int.cast_ofNat_Int, true_and, and_true]; omega) | kernel_rfl) ?_
    | refine RegW.run ?_
    | refine ⟨_, hi, ?_⟩
    | fail
  all_goals first
    | exact Dle.refl _ _
    | trace_state
theorem containsS_sp (l : List ByteArray) (x : ByteArray) : Sp (cx Tryz.prog mixed tyT_ok E) 21 [encStrs l, dS x] (dB (decide (0 ≤ idxS l x 0))) := by
  have hi := index_sp E l x
  generalize idxS l x 0 = z at hi
  refine Sp.body Tryz.func21 (by kernel_rfl) rfl (by kernel_rfl) (by kernel_rfl) (by kernel_rfl) ?_
  repeat' first
    | (refine facW_intro ?_; intro _)
    | refine Or.inl ?_
    | ((conv => whnf); first | (refine condW_dec ?_ ?_ <;> intro _) | refine condW_not ?_ | (refine condW_bool ?_ ?_ <;> intro _) | (refine nbC_t (fun _ => ?_) ?_) | (refine nbC_f ?_ (fun _ => ?_)))
    | refine And.intro (by first | omega | (simp only [Int.toNat_natCast] at *; omega) | (simp only [Nat.reduceAdd, Int.cast_ofNat_Int, true_and, and_true]; omega) | kernel_rfl) ?_
    | refine RegW.run ?_
    | refine ⟨_, hi, ?_⟩
    | fail
  all_goals first
    | exact Dle.refl _ _
    | trace_state
end
end ft
end Go.Proofs.YtilfmjldcigagaaGreatDoor
