/-
  Addresses. Bytes as a string. strings.TrimRight by one byte.
-/
import Derived.Test.YtiaibkbflmamgaaGreatDoorTp1
import Derived.Test.YtiaibkbflmamgaaGreatDoorBy3
import Derived.Test.YtiaibkbflmamgaaGreatDoorQ7
namespace Go.Proofs.YtiaibkbflmamgaaGreatDoor
open Go.RowKit
set_option linter.unusedVariables false
set_option linter.unusedSimpArgs false
namespace tp
open pn
/-- An address of a page. -/
def addrB (s : ByteArray) : Bool := decide (s = ⟨#[47]⟩) || (decide (2 < s.size) && decide ((bAt s 0).toNat = 47) && decide ((bAt s (s.size - 1)).toNat = 47) && pathB (s.extract 1 (s.size - 1)))
section
variable (E : Env)
set_option maxRecDepth 100000
theorem isAddress_sp (hML : ∀ w, E.G w → ML w) (s : ByteArray) : Sp (cx Tryz.prog mixed tyT_ok E) 27 [dS s] (dB (addrB s)) := by
  have h1 := t_isPath_sp E hML (s.extract (Int.toNat 1) ((s.size : Int) - 1).toNat)
  have e1 : ((s.size : Int) - 1).toNat = s.size - 1 := by omega
  obtain ⟨r, hr⟩ : ∃ r, r = addrB s := ⟨_, rfl⟩
  rw [← hr]
  unfold addrB at hr
  rw [← e1, show (1 : Nat) = Int.toNat 1 from rfl] at hr
  generalize pathB (s.extract (Int.toNat 1) ((s.size : Int) - 1).toNat) = q at h1 hr
  refine Sp.body Tryz.func27 (by kernel_rfl) rfl (by kernel_rfl) (by kernel_rfl) (by kernel_rfl) ?_
  repeat' first
    | (refine codeW_cond rfl ?_; first | (refine condW_dec ?_ ?_ <;> intro _ <;> try (exfalso; omega)) | refine condW_not ?_ | (refine condW_bool ?_ ?_ <;> intro _ <;> try (exfalso; omega)))
    | (refine facW_intro ?_; intro _)
    | refine Or.inl ?_
    | ((conv => whnf); first | (refine condW_dec ?_ ?_ <;> intro _ <;> try (exfalso; omega)) | refine condW_not ?_ | (refine condW_bool ?_ ?_ <;> intro _ <;> try (exfalso; omega)) | (refine nbC_t (fun _ => ?_) ?_) | (refine nbC_f ?_ (fun _ => ?_)))
    | refine And.intro (by first | omega | (simp only [Int.toNat_natCast] at *; omega) | (simp only [Nat.reduceAdd, Int.cast_ofNat_Int, true_and, and_true]; omega)  | kernel_rfl) ?_
    | refine RegW.run ?_
    | refine ⟨_, h1, ?_⟩
    | fail
  all_goals first
    | (refine Dle.bo ?_; rw [hr]; simp_all; done)
    | (refine Dle.bo ?_; rw [hr]; simp_all; intros; first | omega | (exfalso; omega))
    | trace_state
theorem checkAddress_sp (hML : ∀ w, E.G w → ML w) (s : ByteArray) : Sp (cx Tryz.prog mixed tyT_ok E) 9 [dS s] (i64 (if addrB s = true then 0 else 3)) := by
  have h1 := isAddress_sp E hML s
  generalize addrB s = b at h1
  cases b
  · refine Sp.body Tryz.func9 (by kernel_rfl) rfl (by kernel_rfl) (by kernel_rfl) (by kernel_rfl) ?_
    repeat' first
      | (refine codeW_cond rfl ?_; first | (refine condW_dec ?_ ?_ <;> intro _ <;> try (exfalso; omega)) | refine condW_not ?_ | (refine condW_bool ?_ ?_ <;> intro _ <;> try (exfalso; omega)))
      | (refine facW_intro ?_; intro _)
      | refine Or.inl ?_
      | ((conv => whnf); first | (refine condW_dec ?_ ?_ <;> intro _ <;> try (exfalso; omega)) | refine condW_not ?_ | (refine condW_bool ?_ ?_ <;> intro _ <;> try (exfalso; omega)) | (refine nbC_t (fun _ => ?_) ?_) | (refine nbC_f ?_ (fun _ => ?_)))
      | refine And.intro (by first | omega | (simp only [Int.toNat_natCast] at *; omega) | (simp only [Nat.reduceAdd, Int.cast_ofNat_Int, true_and, and_true]; omega)  | kernel_rfl) ?_
      | refine RegW.run ?_
      | refine ⟨_, h1, ?_⟩
      | fail
    all_goals first
      | exact Dle.refl _ _
      | (exfalso; rename_i h; cases h; done)
      | trace_state
  · refine Sp.body Tryz.func9 (by kernel_rfl) rfl (by kernel_rfl) (by kernel_rfl) (by kernel_rfl) ?_
    repeat' first
      | (refine codeW_cond rfl ?_; first | (refine condW_dec ?_ ?_ <;> intro _ <;> try (exfalso; omega)) | refine condW_not ?_ | (refine condW_bool ?_ ?_ <;> intro _ <;> try (exfalso; omega)))
      | (refine facW_intro ?_; intro _)
      | refine Or.inl ?_
      | ((conv => whnf); first | (refine condW_dec ?_ ?_ <;> intro _ <;> try (exfalso; omega)) | refine condW_not ?_ | (refine condW_bool ?_ ?_ <;> intro _ <;> try (exfalso; omega)) | (refine nbC_t (fun _ => ?_) ?_) | (refine nbC_f ?_ (fun _ => ?_)))
      | refine And.intro (by first | omega | (simp only [Int.toNat_natCast] at *; omega) | (simp only [Nat.reduceAdd, Int.cast_ofNat_Int, true_and, and_true]; omega)  | kernel_rfl) ?_
      | refine RegW.run ?_
      | refine ⟨_, h1, ?_⟩
      | fail
    all_goals first
      | exact Dle.refl _ _
      | (exfalso; rename_i h; cases h; done)
      | trace_state
theorem isAddressR_sp (hML : ∀ w, E.G w → ML w) (s : ByteArray) : Sp (cx Tryz.prog mixed tyT_ok E) 7 [dS s] (dB (addrB s)) := by
  have h1 := r_isPath_sp E hML (s.extract (Int.toNat 1) ((s.size : Int) - 1).toNat)
  have e1 : ((s.size : Int) - 1).toNat = s.size - 1 := by omega
  obtain ⟨r, hr⟩ : ∃ r, r = addrB s := ⟨_, rfl⟩
  rw [← hr]
  unfold addrB at hr
  rw [← e1, show (1 : Nat) = Int.toNat 1 from rfl] at hr
  generalize pathB (s.extract (Int.toNat 1) ((s.size : Int) - 1).toNat) = q at h1 hr
  refine Sp.body Tryz.func7 (by kernel_rfl) rfl (by kernel_rfl) (by kernel_rfl) (by kernel_rfl) ?_
  repeat' first
    | (refine codeW_cond rfl ?_; first | (refine condW_dec ?_ ?_ <;> intro _ <;> try (exfalso; omega)) | refine condW_not ?_ | (refine condW_bool ?_ ?_ <;> intro _ <;> try (exfalso; omega)))
    | (refine facW_intro ?_; intro _)
    | refine Or.inl ?_
    | ((conv => whnf); first | (refine condW_dec ?_ ?_ <;> intro _ <;> try (exfalso; omega)) | refine condW_not ?_ | (refine condW_bool ?_ ?_ <;> intro _ <;> try (exfalso; omega)) | (refine nbC_t (fun _ => ?_) ?_) | (refine nbC_f ?_ (fun _ => ?_)))
    | refine And.intro (by first | omega | (simp only [Int.toNat_natCast] at *; omega) | (simp only [Nat.reduceAdd, Int.cast_ofNat_Int, true_and, and_true]; omega)  | kernel_rfl) ?_
    | refine RegW.run ?_
    | refine ⟨_, h1, ?_⟩
    | fail
  all_goals first
    | (refine Dle.bo ?_; rw [hr]; simp_all; done)
    | (refine Dle.bo ?_; rw [hr]; simp_all; intros; first | omega | (exfalso; omega))
    | trace_state
end
end tp
end Go.Proofs.YtiaibkbflmamgaaGreatDoor
namespace Go.Proofs.YtiaibkbflmamgaaGreatDoor
open Go.RowKit
set_option linter.unusedVariables false
set_option linter.unusedSimpArgs false
namespace pn

/-- Bytes as a string. -/
def bs (l : List UInt8) : ByteArray := ⟨l.toArray⟩
theorem bs_size (l : List UInt8) : (bs l).size = l.length := by simp [bs, ByteArray.size]
theorem bs_list (s : ByteArray) : bs s.data.toList = s := by
  obtain ⟨⟨l⟩⟩ := s
  rfl
theorem bs_app (a b : List UInt8) : bs a ++ bs b = bs (a ++ b) := ByteArray.mk_append_mk _ _
theorem bs_str (a : List UInt8) (s : ByteArray) : bs a ++ s = bs (a ++ s.data.toList) := by
  have := bs_app a s.data.toList
  rwa [bs_list] at this
end pn
end Go.Proofs.YtiaibkbflmamgaaGreatDoor
namespace Go.Proofs.YtiaibkbflmamgaaGreatDoor
open Go.RowKit
set_option linter.unusedVariables false
set_option linter.unusedSimpArgs false
namespace tp
open pn
section
variable (E : Env)
set_option maxRecDepth 100000
theorem cutAll_snoc (m : List UInt8) (c : UInt8) : cutAll (m ++ [c]) = if c = 45 then cutAll m else m ++ [c] := by
  unfold cutAll
  rw [List.reverse_append]
  simp only [List.reverse_cons, List.reverse_nil, List.nil_append, List.singleton_append, List.dropWhile_cons]
  by_cases h : c = 45
  · subst h
    rw [if_pos (by decide), if_pos rfl]
  · rw [if_neg (by simpa using h), if_neg h]
    simp
theorem trimByte_sp (l : List UInt8) (hl : l.length ≤ 140737488351232) : Sp (cx Tryz.prog mixed tyT_ok E) 67 [dS (bs l), .v (.int .u8 45)] (dS (bs (cutAll l))) := by
  obtain ⟨r, hr⟩ : ∃ r, r = cutAll l := ⟨_, rfl⟩
  rw [← hr]
  refine Sp.body Tryz.func67 (by kernel_rfl) rfl (by kernel_rfl) (by kernel_rfl) (by kernel_rfl) ?_
  repeat' first
    | (refine codeW_cond rfl ?_; first | (refine condW_dec ?_ ?_ <;> intro _ <;> try (exfalso; omega)) | refine condW_not ?_ | (refine condW_bool ?_ ?_ <;> intro _ <;> try (exfalso; omega)))
    | (refine facW_intro ?_; intro _)
    | refine Or.inl ?_
    | ((conv => whnf); first | (refine condW_dec ?_ ?_ <;> intro _ <;> try (exfalso; omega)) | refine condW_not ?_ | (refine condW_bool ?_ ?_ <;> intro _ <;> try (exfalso; omega)) | (refine nbC_t (fun _ => ?_) ?_) | (refine nbC_f ?_ (fun _ => ?_)))
    | refine And.intro (by first | omega | (simp only [Int.toNat_natCast] at *; omega) | (simp only [Nat.reduceAdd, Int.cast_ofNat_Int, true_and, and_true]; omega)  | kernel_rfl) ?_
    | refine RegW.run ?_
    | fail
  refine ⟨List UInt8, fun m => [(0, dS (bs m))], fun m => [], [], fun m => [], fun m => m.length ≤ l.length ∧ r = cutAll m, fun m => m.length, ⟨l, ⟨Nat.le_refl _, hr⟩, ⟨[], ⟨by kernel_rfl, by kernel_rfl, by kernel_rfl, by kernel_rfl, by kernel_rfl, by kernel_rfl, by kernel_rfl⟩, (by repeat' first | exact trivial | exact rfl | kernel_rfl | exact Dle.of_eq rfl | exact MLe.of_eq rfl | exact Dle.i (by omega) | exact Dle.i (by simp only [Int.toNat_natCast] at *; omega) | exact Dle.nil | exact Dle.rc Dle.nil | exact Option.some_ne_none _ | exact Or.inl rfl | exact Or.inr trivial | omega | (simp only [Int.toNat_natCast] at *; omega) | (intro _ _ _ _; exact Dle.of_eq rfl) | refine And.intro ?_ ?_)⟩⟩, fun m hm => ?_⟩
  obtain ⟨h1, h2⟩ := hm
  rcases List.eq_nil_or_concat m with rfl | ⟨m2, c, rfl⟩
  · have hz : (bs []).size = 0 := rfl
    repeat' first
      | (refine codeW_cond rfl ?_; first | (refine condW_dec ?_ ?_ <;> intro _ <;> try (exfalso; omega)) | refine condW_not ?_ | (refine condW_bool ?_ ?_ <;> intro _ <;> try (exfalso; omega)))
      | (refine facW_intro ?_; intro _)
      | refine Or.inl ?_
      | ((conv => whnf); first | (refine condW_dec ?_ ?_ <;> intro _ <;> try (exfalso; omega)) | refine condW_not ?_ | (refine condW_bool ?_ ?_ <;> intro _ <;> try (exfalso; omega)) | (refine nbC_t (fun _ => ?_) ?_) | (refine nbC_f ?_ (fun _ => ?_)))
      | refine And.intro (by first | omega | (simp only [Int.toNat_natCast] at *; omega) | (simp only [Nat.reduceAdd, Int.cast_ofNat_Int, true_and, and_true]; omega)  | kernel_rfl) ?_
      | refine RegW.run ?_
      | fail
    all_goals first
      | (exfalso; omega)
      | exact Dle.s (by rw [h2]; rfl)
      | trace_state
  · rw [List.concat_eq_append] at h1 h2 ⊢
    have hz : (bs (m2 ++ [c])).size = m2.length + 1 := by rw [bs_size, List.length_append]; rfl
    have hz2 : m2.length + 1 ≤ l.length := by rw [List.length_append] at h1; exact h1
    have hix : (((bs (m2 ++ [c])).size : Int) - 1).toNat = m2.length := by rw [hz]; omega
    have hat : bAt (bs (m2 ++ [c])) (((bs (m2 ++ [c])).size : Int) - 1).toNat = c := by
      rw [hix]
      unfold bAt bs
      rw [List.getD_eq_getElem?_getD, List.getElem?_append_right (Nat.le_refl _), Nat.sub_self]
      rfl
    rw [cutAll_snoc] at h2
    have hcut : (bs (m2 ++ [c])).extract (Int.toNat 0) (((bs (m2 ++ [c])).size : Int) - 1).toNat = bs m2 := by
      rw [hix]
      apply toL_ext
      rw [ext_L]
      show ((m2 ++ [c]).take m2.length).drop 0 = m2
      rw [List.drop_zero, List.take_left]
    have hc45 : (c.toNat : Int) = 45 ↔ c = 45 := ⟨fun h => UInt8.toNat_inj.1 (by show c.toNat = 45; omega), fun h => by rw [h]; rfl⟩
    by_cases h5 : c = 45
    · have hv : ((bAt (bs (m2 ++ [c])) (((bs (m2 ++ [c])).size : Int) - 1).toNat).toNat : Int) = 45 := by rw [hat]; exact hc45.2 h5
      rw [if_pos h5] at h2
      have hlen : m2.length < (m2 ++ [c]).length := by rw [List.length_append]; exact Nat.lt_succ_self _
      repeat' first
        | (refine codeW_cond rfl ?_; first | (refine condW_dec ?_ ?_ <;> intro _ <;> try (exfalso; omega)) | refine condW_not ?_ | (refine condW_bool ?_ ?_ <;> intro _ <;> try (exfalso; omega)))
        | (refine facW_intro ?_; intro _)
        | refine Or.inl ?_
        | ((conv => whnf); first | (refine condW_dec ?_ ?_ <;> intro _ <;> try (exfalso; omega)) | refine condW_not ?_ | (refine condW_bool ?_ ?_ <;> intro _ <;> try (exfalso; omega)) | (refine nbC_t (fun _ => ?_) ?_) | (refine nbC_f ?_ (fun _ => ?_)))
        | refine And.intro (by first | omega | (simp only [Int.toNat_natCast] at *; omega) | (simp only [Nat.reduceAdd, Int.cast_ofNat_Int, true_and, and_true]; omega)  | kernel_rfl) ?_
        | refine RegW.run ?_
        | fail
      all_goals first
        | (exfalso; omega)
        | exact ⟨m2, ⟨by omega, h2⟩, ⟨[], ⟨by kernel_rfl, by kernel_rfl, by kernel_rfl, by kernel_rfl, by kernel_rfl, by kernel_rfl, by kernel_rfl⟩, (by repeat' first | (exact Dle.s hcut) | exact trivial | exact rfl | kernel_rfl | exact Dle.of_eq rfl | exact MLe.of_eq rfl | exact Dle.i (by omega) | exact Dle.i (by simp only [Int.toNat_natCast] at *; omega) | exact Dle.nil | exact Dle.rc Dle.nil | exact Option.some_ne_none _ | exact Or.inl rfl | exact Or.inr trivial | omega | (simp only [Int.toNat_natCast] at *; omega) | (intro _ _ _ _; exact Dle.of_eq rfl) | refine And.intro ?_ ?_)⟩, by first | omega | (dsimp only; omega)⟩
        | trace_state
    · have hv : ¬ ((bAt (bs (m2 ++ [c])) (((bs (m2 ++ [c])).size : Int) - 1).toNat).toNat : Int) = 45 := by rw [hat]; exact fun g => h5 (hc45.1 g)
      rw [if_neg h5] at h2
      repeat' first
        | (refine codeW_cond rfl ?_; first | (refine condW_dec ?_ ?_ <;> intro _ <;> try (exfalso; omega)) | refine condW_not ?_ | (refine condW_bool ?_ ?_ <;> intro _ <;> try (exfalso; omega)))
        | (refine facW_intro ?_; intro _)
        | refine Or.inl ?_
        | ((conv => whnf); first | (refine condW_dec ?_ ?_ <;> intro _ <;> try (exfalso; omega)) | refine condW_not ?_ | (refine condW_bool ?_ ?_ <;> intro _ <;> try (exfalso; omega)) | (refine nbC_t (fun _ => ?_) ?_) | (refine nbC_f ?_ (fun _ => ?_)))
        | refine And.intro (by first | omega | (simp only [Int.toNat_natCast] at *; omega) | (simp only [Nat.reduceAdd, Int.cast_ofNat_Int, true_and, and_true]; omega)  | kernel_rfl) ?_
        | refine RegW.run ?_
        | fail
      all_goals first
        | (exfalso; omega)
        | exact Dle.s (by rw [h2])
        | trace_state
theorem trimRight_sp (l : List UInt8) (hl : l.length ≤ 140737488351232) : Sp (cx Tryz.prog mixed tyT_ok E) 31 [dS (bs l), dS ⟨#[45]⟩] (dS (bs (cutAll l))) := by
  have h1 := trimByte_sp E l hl
  obtain ⟨p, hp⟩ : ∃ p : ByteArray, p = ⟨#[45]⟩ := ⟨_, rfl⟩
  have hz : p.size = 1 := by rw [hp]; rfl
  have hb : ((bAt p (Int.toNat 0)).toNat : Int) = 45 := by rw [hp]; rfl
  have hne : ¬ p = ⟨#[]⟩ := fun e => by rw [e] at hz; exact absurd hz (by decide)
  rw [← hb] at h1
  rw [← hp]
  by_cases h : bs l = ⟨#[]⟩
  · have e : l = [] := by
      have := congrArg ByteArray.size h
      rw [bs_size] at this
      exact List.eq_nil_of_length_eq_zero this
    subst e
    refine Sp.body Tryz.func31 (by kernel_rfl) rfl (by kernel_rfl) (by kernel_rfl) (by kernel_rfl) ?_
    repeat' first
      | (refine codeW_cond rfl ?_; first | (refine condW_dec ?_ ?_ <;> intro _ <;> try (exfalso; omega)) | refine condW_not ?_ | (refine condW_bool ?_ ?_ <;> intro _ <;> try (exfalso; omega)))
      | (refine facW_intro ?_; intro _)
      | refine Or.inl ?_
      | ((conv => whnf); first | (refine condW_dec ?_ ?_ <;> intro _ <;> try (exfalso; omega)) | refine condW_not ?_ | (refine condW_bool ?_ ?_ <;> intro _ <;> try (exfalso; omega)) | (refine nbC_t (fun _ => ?_) ?_) | (refine nbC_f ?_ (fun _ => ?_)))
      | refine And.intro (by first | omega | (simp only [Int.toNat_natCast] at *; omega) | (simp only [Nat.reduceAdd, Int.cast_ofNat_Int, true_and, and_true]; omega)  | kernel_rfl) ?_
      | refine RegW.run ?_
      | refine ⟨_, h1, ?_⟩
      | fail
    all_goals first
      | exact Dle.refl _ _
      | (exfalso; rename_i g; exact g rfl)
      | trace_state
  · refine Sp.body Tryz.func31 (by kernel_rfl) rfl (by kernel_rfl) (by kernel_rfl) (by kernel_rfl) ?_
    repeat' first
      | (refine codeW_cond rfl ?_; first | (refine condW_dec ?_ ?_ <;> intro _ <;> try (exfalso; omega)) | refine condW_not ?_ | (refine condW_bool ?_ ?_ <;> intro _ <;> try (exfalso; omega)))
      | (refine facW_intro ?_; intro _)
      | refine Or.inl ?_
      | ((conv => whnf); first | (refine condW_dec ?_ ?_ <;> intro _ <;> try (exfalso; omega)) | refine condW_not ?_ | (refine condW_bool ?_ ?_ <;> intro _ <;> try (exfalso; omega)) | (refine nbC_t (fun _ => ?_) ?_) | (refine nbC_f ?_ (fun _ => ?_)))
      | refine And.intro (by first | omega | (simp only [Int.toNat_natCast] at *; omega) | (simp only [Nat.reduceAdd, Int.cast_ofNat_Int, true_and, and_true]; omega)  | kernel_rfl) ?_
      | refine RegW.run ?_
      | refine ⟨_, h1, ?_⟩
      | fail
    all_goals first
      | exact Dle.refl _ _
      | (exfalso; rename_i g; exact h g)
      | (exfalso; rename_i g; exact hne g)
      | (exfalso; omega)
      | trace_state
end
end tp
end Go.Proofs.YtiaibkbflmamgaaGreatDoor
