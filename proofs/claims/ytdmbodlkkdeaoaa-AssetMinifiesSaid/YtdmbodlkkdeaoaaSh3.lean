/-
  Tokens made smaller: idle.
-/
import Derived.Test.YtdmbodlkkdeaoaaSh1
namespace Go.Proofs.Ytdmbodlkkdeaoaa
open Go.RowKit
set_option linter.unusedVariables false
set_option linter.unusedSimpArgs false
namespace sh
open bl tk
theorem keepRow {s : List Tok} {m : Nat} (h0 : 0 < m) (h : idleT s (m - 1) = false) (i : Nat) : (decide (m ≤ i) && idleT s i) = (decide (m - 1 ≤ i) && idleT s i) := by
  by_cases hi : i = m - 1
  · rw [hi, h, Bool.and_false, Bool.and_false]
  · congr 1
    exact decide_eq_decide.2 (by omega)
theorem setRow {s : List Tok} {m : Nat} (h0 : 0 < m) {b : Bool} (h : idleT s (m - 1) = b) (i : Nat) : (if i = m - 1 then b else (decide (m ≤ i) && idleT s i)) = (decide (m - 1 ≤ i) && idleT s i) := by
  by_cases hi : i = m - 1
  · rw [if_pos hi, hi, h]; simp
  · rw [if_neg hi]
    congr 1
    exact decide_eq_decide.2 (by omega)
section
variable (E : Env)
set_option maxRecDepth 100000
theorem rowS1 {s : List Tok} {m k : Nat} (h0 : 0 < m) {b : Bool} (h : idleT s (m - 1) = b) (hk : k = m - 1) (i : Nat) : Dle (cx Try.prog mixed tyT_ok E) (rowSet (fun i _ => dB (decide (m ≤ i) && idleT s i)) (0 + k) 0 (dB b : DD).cells i 0) (dB (decide (m - 1 ≤ i) && idleT s i)) := by
  subst hk
  rw [← setRow h0 h i]
  unfold rowSet
  rw [Nat.zero_add]
  by_cases hi : i = m - 1
  · rw [if_pos ⟨hi, Nat.le_refl _, Nat.lt_succ_self _⟩, if_pos hi]
    exact Dle.refl _ _
  · rw [if_neg (fun g => hi g.1), if_neg hi]
    exact Dle.refl _ _
set_option maxHeartbeats 4000000 in
theorem idle_sp (hML : ∀ w, E.G w → ML w) (s : List Tok) (hs : s.length ≤ 1000000000) : Sp (cx Try.prog mixed tyT_ok E) 50 [encToks s] (.sl 1 1 s.length (fun i _ => dB (idleT s i))) := by
  have hE := endsT_end (s := s) (Nat.lt_irrefl s.length)
  have hR : ∀ i, i < s.length → Dle (cx Try.prog mixed tyT_ok E) (dB false) (dB (decide (s.length ≤ i) && idleT s i)) := fun i h => Dle.bo (by rw [decide_eq_false (by omega)]; rfl)
  refine Sp.body Try.func50 (by kernel_rfl) rfl (by kernel_rfl) (by kernel_rfl) (by kernel_rfl) ?_
  repeat' first
    | (refine facW_intro ?_; intro _)
    | refine Or.inl ?_
    | ((conv => whnf); first | (refine condW_dec ?_ ?_ <;> intro _ <;> try (exfalso; omega)) | refine condW_not ?_ | (refine condW_bool ?_ ?_ <;> intro _ <;> try (exfalso; omega)) | (refine nbC_t (fun _ => ?_) ?_) | (refine nbC_f ?_ (fun _ => ?_)))
    | refine And.intro (by first | omega | (simp only [Int.toNat_natCast] at *; omega) | (simp only [Nat.reduceAdd, Int.cast_ofNat_Int, true_and, and_true]; omega) | kernel_rfl) ?_
    | refine RegW.run ?_
    | fail
  refine ⟨Nat, fun m => [(5, i64 ((m : Int) - 1)), (4, dB (endsT s m))], fun m => [(9, .row 4 s.length (fun i _ => dB (decide (m ≤ i) && idleT s i)))], [], fun m => [], fun m => m ≤ s.length, fun m => m, ⟨s.length, Nat.le_refl _, ⟨[], ⟨by kernel_rfl, by kernel_rfl, by kernel_rfl, by kernel_rfl, by kernel_rfl, by kernel_rfl, by kernel_rfl⟩, (by repeat' first | ((first | exact Dle.bo hE.symm | (intro i j hi hj; obtain rfl : j = 0 := Nat.lt_one_iff.1 hj; exact hR i (by omega)))) | exact trivial | exact rfl | kernel_rfl | exact Dle.of_eq rfl | exact MLe.of_eq rfl | exact Dle.i (by omega) | exact Dle.i (by simp only [Int.toNat_natCast] at *; omega) | exact Dle.nil | exact Dle.rc Dle.nil | exact Option.some_ne_none _ | exact Or.inl rfl | exact Or.inr trivial | omega | (simp only [Int.toNat_natCast] at *; omega) | (intro _ _ _ _; exact Dle.of_eq rfl) | refine And.intro ?_ ?_)⟩⟩, fun m hm => ?_⟩
  have hm : m ≤ s.length := hm
  by_cases h0 : m = 0
  · subst h0
    repeat' first
      | (refine facW_intro ?_; intro _)
      | refine Or.inl ?_
      | ((conv => whnf); first | (refine condW_dec ?_ ?_ <;> intro _ <;> try (exfalso; omega)) | refine condW_not ?_ | (refine condW_bool ?_ ?_ <;> intro _ <;> try (exfalso; omega)) | (refine nbC_t (fun _ => ?_) ?_) | (refine nbC_f ?_ (fun _ => ?_)))
      | refine And.intro (by first | omega | (simp only [Int.toNat_natCast] at *; omega) | (simp only [Nat.reduceAdd, Int.cast_ofNat_Int, true_and, and_true]; omega) | kernel_rfl) ?_
      | refine RegW.run ?_
      | fail
    all_goals first
      | (exfalso; omega)
      | exact Dle.sl (X := (cx Try.prog mixed tyT_ok E)) rfl (fun i j hi hj => Dle.bo (by simp))
      | trace_state
  · have e1 : ((m : Int) - 1).toNat = m - 1 := by omega
    have hlt : m - 1 < s.length := by omega
    have ha := among_sp E hML (s.getD ((m : Int) - 1).toNat zt) (⟨#[59]⟩ : ByteArray) (by decide)
    have hb := among_sp E hML (s.getD ((m : Int) - 1).toNat zt) ⟨#[125]⟩ (by decide)
    have em : m - 1 + 1 = m := by omega
    have h1 := @endsT_blank s (m - 1) hlt
    have h2 := @endsT_semi s (m - 1) hlt
    have h3 := @endsT_other s (m - 1) hlt
    rw [em] at h1 h2
    have hid : idleT s (m - 1) = if (s.getD (m - 1) zt).1 = 4 then false else if amT (s.getD (m - 1) zt) (⟨#[59]⟩ : ByteArray) = true then endsT s (m - 1 + 1) else false := rfl
    rw [em] at hid
    have hp : 0 < m := by omega
    have hK := fun h => @keepRow s m hp h
    have hS := fun h => @setRow s m hp (endsT s m) h
    rw [← e1] at h1 h2 h3 hid hK hS
    generalize amT (s.getD ((m : Int) - 1).toNat zt) (⟨#[59]⟩ : ByteArray) = a at ha h2 h3 hid
    generalize amT (s.getD ((m : Int) - 1).toNat zt) ⟨#[125]⟩ = b at hb h3
    repeat' first
      | (refine facW_intro ?_; intro _)
      | refine Or.inl ?_
      | ((conv => whnf); first | (refine condW_dec ?_ ?_ <;> intro _ <;> try (exfalso; omega)) | refine condW_not ?_ | (refine condW_bool ?_ ?_ <;> intro _ <;> try (exfalso; omega)) | (refine nbC_t (fun _ => ?_) ?_) | (refine nbC_f ?_ (fun _ => ?_)))
      | refine And.intro (by first | omega | (simp only [Int.toNat_natCast] at *; omega) | (simp only [Nat.reduceAdd, Int.cast_ofNat_Int, true_and, and_true]; omega) | kernel_rfl) ?_
      | refine RegW.run ?_
      | refine ⟨_, ha, ?_⟩
      | refine ⟨_, hb, ?_⟩
      | fail
    · rename_i hb
      have h1 := h1 hb
      rw [if_pos hb] at hid
      rw [e1] at h1
      exact ⟨m - 1, by omega, ⟨[], ⟨by kernel_rfl, by kernel_rfl, by kernel_rfl, by kernel_rfl, by kernel_rfl, by kernel_rfl, by kernel_rfl⟩, (by repeat' first | (first | exact Dle.bo h1.symm | (intro i j hi hj; exact Dle.bo (by rw [hK hid i, e1]))) | exact trivial | exact rfl | kernel_rfl | exact Dle.of_eq rfl | exact MLe.of_eq rfl | exact Dle.i (by omega) | exact Dle.i (by simp only [Int.toNat_natCast] at *; omega) | exact Dle.nil | exact Dle.rc Dle.nil | exact Option.some_ne_none _ | exact Or.inl rfl | exact Or.inr trivial | omega | (simp only [Int.toNat_natCast] at *; omega) | (intro _ _ _ _; exact Dle.of_eq rfl) | refine And.intro ?_ ?_)⟩, by first | omega | (dsimp only; omega)⟩
    · rename_i hb ha
      have h2 := h2 hb ha
      rw [if_neg hb, if_pos ha] at hid
      rw [e1] at h2
      exact ⟨m - 1, by omega, ⟨[], ⟨by kernel_rfl, by kernel_rfl, by kernel_rfl, by kernel_rfl, by kernel_rfl, by kernel_rfl, by kernel_rfl⟩, (by repeat' first | (first | exact Dle.bo h2.symm | (intro i j hi hj; obtain rfl : j = 0 := Nat.lt_one_iff.1 hj; exact rowS1 E hp (by rw [← e1]; exact hid) e1 i)) | exact trivial | exact rfl | kernel_rfl | exact Dle.of_eq rfl | exact MLe.of_eq rfl | exact Dle.i (by omega) | exact Dle.i (by simp only [Int.toNat_natCast] at *; omega) | exact Dle.nil | exact Dle.rc Dle.nil | exact Option.some_ne_none _ | exact Or.inl rfl | exact Or.inr trivial | omega | (simp only [Int.toNat_natCast] at *; omega) | (intro _ _ _ _; exact Dle.of_eq rfl) | refine And.intro ?_ ?_)⟩, by first | omega | (dsimp only; omega)⟩
    · rename_i hb ha
      have h3 := h3 hb ha
      rw [if_neg hb, if_neg (by rw [ha]; decide)] at hid
      rw [e1] at h3
      exact ⟨m - 1, by omega, ⟨[], ⟨by kernel_rfl, by kernel_rfl, by kernel_rfl, by kernel_rfl, by kernel_rfl, by kernel_rfl, by kernel_rfl⟩, (by repeat' first | (first | exact Dle.bo h3.symm | (intro i j hi hj; exact Dle.bo (by rw [hK hid i, e1]))) | exact trivial | exact rfl | kernel_rfl | exact Dle.of_eq rfl | exact MLe.of_eq rfl | exact Dle.i (by omega) | exact Dle.i (by simp only [Int.toNat_natCast] at *; omega) | exact Dle.nil | exact Dle.rc Dle.nil | exact Option.some_ne_none _ | exact Or.inl rfl | exact Or.inr trivial | omega | (simp only [Int.toNat_natCast] at *; omega) | (intro _ _ _ _; exact Dle.of_eq rfl) | refine And.intro ?_ ?_)⟩, by first | omega | (dsimp only; omega)⟩
end
end sh
end Go.Proofs.Ytdmbodlkkdeaoaa
