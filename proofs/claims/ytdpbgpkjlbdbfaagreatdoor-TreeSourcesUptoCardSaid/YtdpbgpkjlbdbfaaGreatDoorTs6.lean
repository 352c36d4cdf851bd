/-
  Sources of a tree: below, under, depth, kinds of settings. Sources of a tree: addresses. Sources of a tree: what a path says, by the reference. Sources of a tree: what a path says: the plain law.
-/
import Derived.Test.YtdpbgpkjlbdbfaaGreatDoorTs2
namespace Go.Proofs.YtdpbgpkjlbdbfaaGreatDoor
open Go.RowKit
set_option linter.unusedVariables false
set_option linter.unusedSimpArgs false
namespace ts
open rs
/-- The kind that a setting must have; -1: any. -/
def kindK (k : ByteArray) : Int :=
  if k = (⟨#[116, 105, 116, 108, 101]⟩ : ByteArray) ∨ k = (⟨#[115, 108, 117, 103]⟩ : ByteArray) ∨ k = (⟨#[116, 114, 97, 110, 115, 108, 97, 116, 105, 111, 110]⟩ : ByteArray) then 3
  else if k = (⟨#[119, 101, 105, 103, 104, 116]⟩ : ByteArray) then 2
  else if k = (⟨#[100, 97, 116, 101]⟩ : ByteArray) ∨ k = (⟨#[112, 117, 98, 108, 105, 115, 104]⟩ : ByteArray) ∨ k = (⟨#[101, 120, 112, 105, 114, 101]⟩ : ByteArray) then 4
  else if k = (⟨#[100, 114, 97, 102, 116]⟩ : ByteArray) then 1
  else if k = (⟨#[97, 108, 105, 97, 115, 101, 115]⟩ : ByteArray) then 5
  else if k = (⟨#[99, 97, 115, 99, 97, 100, 101]⟩ : ByteArray) ∨ k = (⟨#[109, 101, 110, 117, 115]⟩ : ByteArray) then 6
  else -1
section
variable (E : Env)
set_option maxRecDepth 100000
theorem under_sp (p d : ByteArray) (hd : d.size ≤ 1000000000) : Sp (cx Tryz.prog mixed tyT_ok E) 98 [dS p, dS d] (dB (underB p d)) := by
  have h1 := pre_sp E p (d ++ ⟨#[47]⟩)
  have hz : (⟨#[47]⟩ : ByteArray).size = 1 := rfl
  unfold underB
  generalize preS p (d ++ ⟨#[47]⟩) = b at h1
  refine Sp.body Tryz.func98 (by kernel_rfl) rfl (by kernel_rfl) (by kernel_rfl) (by kernel_rfl) ?_
  repeat' first
    | (refine codeW_cond rfl ?_; first | (refine condW_dec ?_ ?_ <;> intro _ <;> try (exfalso; omega)) | refine condW_not ?_ | (refine condW_bool ?_ ?_ <;> intro _ <;> try (exfalso; omega)))
    | (refine facW_intro ?_; intro _)
    | refine Or.inl ?_
    | ((conv => whnf); first | (refine condW_dec ?_ ?_ <;> intro _ <;> try (exfalso; omega)) | refine condW_not ?_ | (refine condW_bool ?_ ?_ <;> intro _ <;> try (exfalso; omega)) | (refine nbC_t (fun _ => ?_) ?_) | (refine nbC_f ?_ (fun _ => ?_)))
    | refine And.intro (by first | omega | (simp only [Int.toNat_natCast] at *; omega) | (simp only [Nat.reduceAdd, Int.cast_ofNat_Int, true_and, and_true]; omega) | kernel_rfl) ?_
    | refine RegW.run ?_
    | refine ⟨_, h1, ?_⟩
    | fail
  all_goals first
    | exact Dle.refl _ _
    | (exfalso; omega)
    | trace_state
theorem below_sp (p d : ByteArray) (hd : d.size ≤ 1000000000) : Sp (cx Tryz.prog mixed tyT_ok E) 92 [dS p, dS d] (dB (decide (d = ⟨#[]⟩) || underB p d)) := by
  have h1 := pre_sp E p (d ++ ⟨#[47]⟩)
  have hz : (⟨#[47]⟩ : ByteArray).size = 1 := rfl
  unfold underB
  generalize preS p (d ++ ⟨#[47]⟩) = b at h1
  refine Sp.body Tryz.func92 (by kernel_rfl) rfl (by kernel_rfl) (by kernel_rfl) (by kernel_rfl) ?_
  repeat' first
    | (refine codeW_cond rfl ?_; first | (refine condW_dec ?_ ?_ <;> intro _ <;> try (exfalso; omega)) | refine condW_not ?_ | (refine condW_bool ?_ ?_ <;> intro _ <;> try (exfalso; omega)))
    | (refine facW_intro ?_; intro _)
    | refine Or.inl ?_
    | ((conv => whnf); first | (refine condW_dec ?_ ?_ <;> intro _ <;> try (exfalso; omega)) | refine condW_not ?_ | (refine condW_bool ?_ ?_ <;> intro _ <;> try (exfalso; omega)) | (refine nbC_t (fun _ => ?_) ?_) | (refine nbC_f ?_ (fun _ => ?_)))
    | refine And.intro (by first | omega | (simp only [Int.toNat_natCast] at *; omega) | (simp only [Nat.reduceAdd, Int.cast_ofNat_Int, true_and, and_true]; omega) | kernel_rfl) ?_
    | refine RegW.run ?_
    | refine ⟨_, h1, ?_⟩
    | fail
  all_goals first
    | exact Dle.bo (by simp_all)
    | (exfalso; omega)
    | trace_state
theorem parts_sp (p : ByteArray) (hp : 0 ≤ cntB p ∧ cntB p ≤ 1000000000) : Sp (cx Tryz.prog mixed tyT_ok E) 37 [dS p] (i64 (cntB p + 1)) := by
  have h1 := cnt_sp E p
  generalize cntB p = c at h1 hp
  refine Sp.body Tryz.func37 (by kernel_rfl) rfl (by kernel_rfl) (by kernel_rfl) (by kernel_rfl) ?_
  repeat' first
    | (refine codeW_cond rfl ?_; first | (refine condW_dec ?_ ?_ <;> intro _ <;> try (exfalso; omega)) | refine condW_not ?_ | (refine condW_bool ?_ ?_ <;> intro _ <;> try (exfalso; omega)))
    | (refine facW_intro ?_; intro _)
    | refine Or.inl ?_
    | ((conv => whnf); first | (refine condW_dec ?_ ?_ <;> intro _ <;> try (exfalso; omega)) | refine condW_not ?_ | (refine condW_bool ?_ ?_ <;> intro _ <;> try (exfalso; omega)) | (refine nbC_t (fun _ => ?_) ?_) | (refine nbC_f ?_ (fun _ => ?_)))
    | refine And.intro (by first | omega | (simp only [Int.toNat_natCast] at *; omega) | (simp only [Nat.reduceAdd, Int.cast_ofNat_Int, true_and, and_true]; omega) | kernel_rfl) ?_
    | refine RegW.run ?_
    | refine ⟨_, h1, ?_⟩
    | fail
  all_goals first
    | exact Dle.refl _ _
    | (exfalso; omega)
    | trace_state
theorem deepPath_sp (p : ByteArray) (hp : 0 ≤ cntB p ∧ cntB p ≤ 1000000000) : Sp (cx Tryz.prog mixed tyT_ok E) 96 [dS p] (dB (decide (12 < cntB p + 1))) := by
  have h1 := cnt_sp E p
  generalize cntB p = c at h1 hp
  refine Sp.body Tryz.func96 (by kernel_rfl) rfl (by kernel_rfl) (by kernel_rfl) (by kernel_rfl) ?_
  repeat' first
    | (refine codeW_cond rfl ?_; first | (refine condW_dec ?_ ?_ <;> intro _ <;> try (exfalso; omega)) | refine condW_not ?_ | (refine condW_bool ?_ ?_ <;> intro _ <;> try (exfalso; omega)))
    | (refine facW_intro ?_; intro _)
    | refine Or.inl ?_
    | ((conv => whnf); first | (refine condW_dec ?_ ?_ <;> intro _ <;> try (exfalso; omega)) | refine condW_not ?_ | (refine condW_bool ?_ ?_ <;> intro _ <;> try (exfalso; omega)) | (refine nbC_t (fun _ => ?_) ?_) | (refine nbC_f ?_ (fun _ => ?_)))
    | refine And.intro (by first | omega | (simp only [Int.toNat_natCast] at *; omega) | (simp only [Nat.reduceAdd, Int.cast_ofNat_Int, true_and, and_true]; omega) | kernel_rfl) ?_
    | refine RegW.run ?_
    | refine ⟨_, h1, ?_⟩
    | fail
  all_goals first
    | exact Dle.refl _ _
    | (exfalso; omega)
    | trace_state
theorem kindOf_sp (k : ByteArray) : Sp (cx Tryz.prog mixed tyT_ok E) 239 [dS k] (i64 (kindK k)) := by
  obtain ⟨r, hr⟩ : ∃ r, r = kindK k := ⟨_, rfl⟩
  rw [← hr]
  unfold kindK at hr
  refine Sp.body Tryz.func239 (by kernel_rfl) rfl (by kernel_rfl) (by kernel_rfl) (by kernel_rfl) ?_
  repeat' first
    | (refine codeW_cond rfl ?_; first | (refine condW_dec ?_ ?_ <;> intro _ <;> try (exfalso; omega)) | refine condW_not ?_ | (refine condW_bool ?_ ?_ <;> intro _ <;> try (exfalso; omega)))
    | (refine facW_intro ?_; intro _)
    | refine Or.inl ?_
    | ((conv => whnf); first | (refine condW_dec ?_ ?_ <;> intro _ <;> try (exfalso; omega)) | refine condW_not ?_ | (refine condW_bool ?_ ?_ <;> intro _ <;> try (exfalso; omega)) | (refine nbC_t (fun _ => ?_) ?_) | (refine nbC_f ?_ (fun _ => ?_)))
    | refine And.intro (by first | omega | (simp only [Int.toNat_natCast] at *; omega) | (simp only [Nat.reduceAdd, Int.cast_ofNat_Int, true_and, and_true]; omega) | kernel_rfl) ?_
    | refine RegW.run ?_
    | fail
  all_goals first
    | exact Dle.i (by rw [hr]; simp_all; done)
    | trace_state
end
end ts
end Go.Proofs.YtdpbgpkjlbdbfaaGreatDoor
namespace Go.Proofs.YtdpbgpkjlbdbfaaGreatDoor
open Go.RowKit
set_option linter.unusedVariables false
set_option linter.unusedSimpArgs false
namespace ts
open rs
/-- An address of a page. -/
def addrB (s : ByteArray) : Bool := decide (s = ⟨#[47]⟩) || (decide (2 < s.size) && decide ((bAt s 0).toNat = 47) && decide ((bAt s (s.size - 1)).toNat = 47) && pathB (s.extract 1 (s.size - 1)))
theorem addr_b {s : ByteArray} {r b : Bool} (hr : r = (decide (s = ⟨#[47]⟩) || decide (2 < s.size) && decide ((bAt s 0).toNat = 47) && decide ((bAt s ((s.size : Int) - 1).toNat).toNat = 47) && b)) (h0 : ¬ s = ⟨#[47]⟩) (h1 : 2 < (s.size : Int)) (h2 : ((bAt s (Int.toNat 0)).toNat : Int) = 47) (h3 : ((bAt s ((s.size : Int) - 1).toNat).toNat : Int) = 47) : b = r := by
  have h4 : (bAt s 0).toNat = 47 := by
    have : ((bAt s 0).toNat : Int) = 47 := h2
    omega
  rw [hr, decide_eq_false h0, decide_eq_true (p := 2 < s.size) (by omega), decide_eq_true h4, decide_eq_true (p := (bAt s ((s.size : Int) - 1).toNat).toNat = 47) (by omega)]
  rfl
section
variable (E : Env)
set_option maxRecDepth 100000
theorem t_isAddress_sp (hML : ∀ w, E.G w → ML w) (s : ByteArray) : Sp (cx Tryz.prog mixed tyT_ok E) 79 [dS s] (dB (addrB s)) := by
  have e1 : ((s.size : Int) - 1).toNat = s.size - 1 := by omega
  have h1 := t_isPath_sp E hML (s.extract 1 ((s.size : Int) - 1).toNat)
  obtain ⟨r, hr⟩ : ∃ r, r = addrB s := ⟨_, rfl⟩
  rw [← hr]
  unfold addrB at hr
  rw [← e1] at hr
  generalize pathB (s.extract 1 ((s.size : Int) - 1).toNat) = b at h1 hr
  refine Sp.body Tryz.func79 (by kernel_rfl) rfl (by kernel_rfl) (by kernel_rfl) (by kernel_rfl) ?_
  repeat' first
    | (refine codeW_cond rfl ?_; first | (refine condW_dec ?_ ?_ <;> intro _ <;> try (exfalso; omega)) | refine condW_not ?_ | (refine condW_bool ?_ ?_ <;> intro _ <;> try (exfalso; omega)))
    | (refine facW_intro ?_; intro _)
    | refine Or.inl ?_
    | ((conv => whnf); first | (refine condW_dec ?_ ?_ <;> intro _ <;> try (exfalso; omega)) | refine condW_not ?_ | (refine condW_bool ?_ ?_ <;> intro _ <;> try (exfalso; omega)) | (refine nbC_t (fun _ => ?_) ?_) | (refine nbC_f ?_ (fun _ => ?_)))
    | refine And.intro (by first | omega | (simp only [Int.toNat_natCast] at *; omega) | (simp only [Nat.reduceAdd, Int.cast_ofNat_Int, true_and, and_true]; omega) | kernel_rfl) ?_
    | refine RegW.run ?_
    | refine ⟨_, h1, ?_⟩
    | fail
  all_goals first
    | (exfalso; omega)
    | exact Dle.bo (addr_b hr (by assumption) (by assumption) (by assumption) (by assumption))
    | exact Dle.bo (by rw [hr]; grind)
    | exact Dle.bo (by rw [hr]; simp only [Int.toNat_zero, Int.toNat_ofNat] at *; grind)
    | exact Dle.bo (by rw [hr]; have e0 : Int.toNat 0 = 0 := rfl; rw [e0] at *; grind)
    | trace_state
theorem r_isAddress_sp (hML : ∀ w, E.G w → ML w) (s : ByteArray) : Sp (cx Tryz.prog mixed tyT_ok E) 26 [dS s] (dB (addrB s)) := by
  have e1 : ((s.size : Int) - 1).toNat = s.size - 1 := by omega
  have h1 := r_isPath_sp E hML (s.extract 1 ((s.size : Int) - 1).toNat)
  obtain ⟨r, hr⟩ : ∃ r, r = addrB s := ⟨_, rfl⟩
  rw [← hr]
  unfold addrB at hr
  rw [← e1] at hr
  generalize pathB (s.extract 1 ((s.size : Int) - 1).toNat) = b at h1 hr
  refine Sp.body Tryz.func26 (by kernel_rfl) rfl (by kernel_rfl) (by kernel_rfl) (by kernel_rfl) ?_
  repeat' first
    | (refine codeW_cond rfl ?_; first | (refine condW_dec ?_ ?_ <;> intro _ <;> try (exfalso; omega)) | refine condW_not ?_ | (refine condW_bool ?_ ?_ <;> intro _ <;> try (exfalso; omega)))
    | (refine facW_intro ?_; intro _)
    | refine Or.inl ?_
    | ((conv => whnf); first | (refine condW_dec ?_ ?_ <;> intro _ <;> try (exfalso; omega)) | refine condW_not ?_ | (refine condW_bool ?_ ?_ <;> intro _ <;> try (exfalso; omega)) | (refine nbC_t (fun _ => ?_) ?_) | (refine nbC_f ?_ (fun _ => ?_)))
    | refine And.intro (by first | omega | (simp only [Int.toNat_natCast] at *; omega) | (simp only [Nat.reduceAdd, Int.cast_ofNat_Int, true_and, and_true]; omega) | kernel_rfl) ?_
    | refine RegW.run ?_
    | refine ⟨_, h1, ?_⟩
    | fail
  all_goals first
    | (exfalso; omega)
    | exact Dle.bo (addr_b hr (by assumption) (by assumption) (by assumption) (by assumption))
    | exact Dle.bo (by rw [hr]; grind)
    | exact Dle.bo (by rw [hr]; simp only [Int.toNat_zero, Int.toNat_ofNat] at *; grind)
    | exact Dle.bo (by rw [hr]; have e0 : Int.toNat 0 = 0 := rfl; rw [e0] at *; grind)
    | trace_state
end
end ts
end Go.Proofs.YtdpbgpkjlbdbfaaGreatDoor
namespace Go.Proofs.YtdpbgpkjlbdbfaaGreatDoor
open Go.RowKit
set_option linter.unusedVariables false
set_option linter.unusedSimpArgs false
namespace ts
open rs
structure Idn where
  k : Int
  key : ByteArray
  lang : ByteArray
def encId (r : Idn) : DD := .tup [i64 r.k, dS r.key, dS r.lang]
def idNo : Idn := ⟨3, ⟨#[]⟩, ⟨#[]⟩⟩
/-- A page's kind, by its name. -/
def idOf (dir name lang : ByteArray) : Idn :=
  if name = ⟨#[]⟩ ∨ dotB name = true then idNo
  else if name = (⟨#[95, 105, 110, 100, 101, 120]⟩ : ByteArray) then ⟨2, dir, lang⟩
  else if name = (⟨#[105, 110, 100, 101, 120]⟩ : ByteArray) then ⟨1, dir, lang⟩
  else if dir = ⟨#[]⟩ then ⟨0, name, lang⟩
  else ⟨0, dir ++ ⟨#[47]⟩ ++ name, lang⟩
def cutName (ls : List ByteArray) (s : ByteArray) : Bool := decide (0 ≤ lastB s 46 s.size) && inK ls ls.length (s.extract ((lastB s 46 s.size) + 1).toNat s.size)
/-- What a path says. -/
def idnR (path : ByteArray) (ls : List ByteArray) : Idn :=
  if sufS (lstP path) (⟨#[46, 112, 97, 103, 101]⟩ : ByteArray) = false then idNo
  else if cutName ls (cutS (lstP path) (⟨#[46, 112, 97, 103, 101]⟩ : ByteArray)) = true then idOf (dirP path) ((cutS (lstP path) (⟨#[46, 112, 97, 103, 101]⟩ : ByteArray)).extract 0 (lastB (cutS (lstP path) (⟨#[46, 112, 97, 103, 101]⟩ : ByteArray)) 46 (cutS (lstP path) (⟨#[46, 112, 97, 103, 101]⟩ : ByteArray)).size).toNat) ((cutS (lstP path) (⟨#[46, 112, 97, 103, 101]⟩ : ByteArray)).extract ((lastB (cutS (lstP path) (⟨#[46, 112, 97, 103, 101]⟩ : ByteArray)) 46 (cutS (lstP path) (⟨#[46, 112, 97, 103, 101]⟩ : ByteArray)).size) + 1).toNat (cutS (lstP path) (⟨#[46, 112, 97, 103, 101]⟩ : ByteArray)).size)
  else idOf (dirP path) (cutS (lstP path) (⟨#[46, 112, 97, 103, 101]⟩ : ByteArray)) (ls.getD 0 ⟨#[]⟩)
theorem dir_size (s : ByteArray) : (dirP s).size ≤ s.size := by
  unfold dirP
  split
  · exact Nat.zero_le _
  · rw [ByteArray.size_extract]; omega
theorem lst_size (s : ByteArray) : (lstP s).size ≤ s.size := by
  unfold lstP
  rw [ByteArray.size_extract]; omega
theorem cut_size (s p : ByteArray) : (cutS s p).size ≤ s.size := by
  unfold cutS
  split
  · rw [ByteArray.size_extract]; omega
  · exact Nat.le_refl _
section
variable (E : Env)
set_option maxRecDepth 100000
set_option maxHeartbeats 4000000 in
theorem kindOfPath_sp (path : ByteArray) (ls : List ByteArray) (hp : path.size ≤ 1000000) (h1 : 1 ≤ ls.length) (h8 : ls.length ≤ 8) : Sp (cx Tryz.prog mixed tyT_ok E) 97 [dS path, encStrs ls] (encId (idnR path ls)) := by
  have c1 := upper_sp E path (by unfold maxLen; omega)
  have c2 := lstPart_sp E path (by unfold maxLen; omega)
  have s1 := dir_size path
  have s2 := lst_size path
  have c3 := cutSuf_sp E (lstP path) (⟨#[46, 112, 97, 103, 101]⟩ : ByteArray)
  have s3 := cut_size (lstP path) (⟨#[46, 112, 97, 103, 101]⟩ : ByteArray)
  obtain ⟨r, hr⟩ : ∃ r, r = idnR path ls := ⟨_, rfl⟩
  rw [← hr]
  unfold idnR at hr
  generalize dirP path = d at *
  generalize lstP path = l at *
  generalize sufS l (⟨#[46, 112, 97, 103, 101]⟩ : ByteArray) = sb at *
  generalize cutS l (⟨#[46, 112, 97, 103, 101]⟩ : ByteArray) = nm at *
  have c4 := lastIdx_sp E nm 46 (by unfold maxLen; omega)
  have s4 := lastB_lt nm 46 nm.size
  unfold cutName at hr
  generalize lastB nm 46 nm.size = i at *
  have c5 := contS_sp E ls ls.length (nm.extract (i + 1).toNat nm.size) (by omega)
  generalize inK ls ls.length (nm.extract (i + 1).toNat nm.size) = cb at *
  have c6 := dot_sp E nm
  have c7 := dot_sp E (nm.extract 0 i.toNat)
  unfold idOf at hr
  generalize dotB nm = q1 at *
  generalize dotB (nm.extract 0 i.toNat) = q2 at *
  have hz : (⟨#[47]⟩ : ByteArray).size = 1 := rfl
  have e0 : Int.toNat 0 = 0 := rfl
  have hx1 : (d ++ (⟨#[47]⟩ : ByteArray)).size = d.size + 1 := by rw [ByteArray.size_append]; rfl
  have hx2 : (nm.extract (Int.toNat 0) i.toNat).size ≤ nm.size := by rw [ByteArray.size_extract]; omega
  unfold encId
  refine Sp.body Tryz.func97 (by kernel_rfl) rfl (by kernel_rfl) (by kernel_rfl) (by kernel_rfl) ?_
  repeat' first
    | (refine codeW_cond rfl ?_; first | (refine condW_dec ?_ ?_ <;> intro _ <;> try (exfalso; omega)) | refine condW_not ?_ | (refine condW_bool ?_ ?_ <;> intro _ <;> try (exfalso; omega)))
    | (refine facW_intro ?_; intro _)
    | refine Or.inl ?_
    | ((conv => whnf); first | (refine condW_dec ?_ ?_ <;> intro _ <;> try (exfalso; omega)) | refine condW_not ?_ | (refine condW_bool ?_ ?_ <;> intro _ <;> try (exfalso; omega)) | (refine nbC_t (fun _ => ?_) ?_) | (refine nbC_f ?_ (fun _ => ?_)))
    | refine And.intro (by first | omega | (simp only [Int.toNat_natCast] at *; omega) | (simp only [Nat.reduceAdd, Int.cast_ofNat_Int, true_and, and_true]; omega) | kernel_rfl) ?_
    | refine RegW.run ?_
    | refine ⟨_, c1, ?_⟩
    | refine ⟨_, c2, ?_⟩
    | refine ⟨_, c3, ?_⟩
    | refine ⟨_, c4, ?_⟩
    | refine ⟨_, c5, ?_⟩
    | refine ⟨_, c6, ?_⟩
    | refine ⟨_, c7, ?_⟩
    | fail
  all_goals clear c1 c2 c3 c4 c5 c6 c7
  all_goals first
    | (exfalso; omega)
    | (refine Dle.of_eq ?_; rw [e0] at *; rw [hr]; simp_all [idNo]; done)
    | (refine Dle.of_eq ?_; rw [e0] at *; rw [hr]; simp_all [idNo]; rfl)
    | (refine Dle.of_eq ?_; rw [hr]; simp_all [idNo]; rfl)
    | (refine Dle.of_eq ?_; simp_all [idNo]; done)
    | (refine Dle.of_eq ?_; simp_all [idNo]; rfl)
    | trace_state
end
end ts
end Go.Proofs.YtdpbgpkjlbdbfaaGreatDoor
namespace Go.Proofs.YtdpbgpkjlbdbfaaGreatDoor
open Go.RowKit
set_option linter.unusedVariables false
set_option linter.unusedSimpArgs false
namespace ts
open rs
theorem lastB_at {s : ByteArray} {c : UInt8} {m : Nat} (hm : bAt s m = c) : ∀ {k : Nat}, m < k → (∀ j, m < j → j < k → bAt s j ≠ c) → lastB s c k = m
  | 0, h, _ => by omega
  | k + 1, h, hn => by
    rw [lastB_s]
    by_cases e : m = k
    · subst e
      rw [if_pos (by rw [hm])]
    · rw [if_neg (fun h2 => hn k (by omega) (by omega) (UInt8.toNat_inj.1 h2)), lastB_at hm (by omega) (fun j h1 h2 => hn j h1 (by omega))]
theorem lastB_no {s : ByteArray} {c : UInt8} : ∀ {k : Nat}, (∀ j, j < k → bAt s j ≠ c) → lastB s c k = -1
  | 0, _ => rfl
  | k + 1, hn => by
    rw [lastB_s, if_neg (fun h2 => hn k (by omega) (UInt8.toNat_inj.1 h2)), lastB_no (fun j h => hn j (by omega))]
theorem toB_size (A : List UInt8) : (toB A).size = A.length := by simp [toB, ByteArray.size]
theorem toB_list (A : List UInt8) : (toB A).data.toList = A := by simp [toB]
theorem bAt_toB (A : List UInt8) (j : Nat) (hj : j < A.length) : bAt (toB A) j = A[j] := by
  unfold bAt
  simp [toB, List.getD, List.getElem?_eq_getElem hj]
/-- The last c of a list. -/
theorem last_app {c : UInt8} (X w : List UInt8) (hw : ∀ b ∈ w, b ≠ c) : lastB (toB (X ++ c :: w)) c (toB (X ++ c :: w)).size = X.length := by
  have hs : (toB (X ++ c :: w)).size = X.length + (w.length + 1) := by rw [toB_size, List.length_append, List.length_cons]
  refine lastB_at ?_ (by omega) (fun j h1 h2 => ?_)
  · rw [bAt_toB _ _ (by simp)]
    simp
  · have hj : j < (X ++ c :: w).length := by rw [← toB_size]; exact h2
    rw [bAt_toB _ _ hj]
    obtain ⟨i, rfl⟩ : ∃ i, j = X.length + (i + 1) := ⟨j - X.length - 1, by omega⟩
    have hi : i < w.length := by omega
    have e : (X ++ c :: w)[X.length + (i + 1)] = w[i] := by
      rw [List.getElem_append_right (by omega)]
      simp
    rw [e]
    exact hw _ (List.getElem_mem hi)
theorem last_none {c : UInt8} (w : List UInt8) (hw : ∀ b ∈ w, b ≠ c) : lastB (toB w) c (toB w).size = -1 := by
  refine lastB_no (fun j h => ?_)
  have hj : j < w.length := by rw [← toB_size]; exact h
  rw [bAt_toB _ _ hj]
  exact hw _ (List.getElem_mem hj)
theorem dotB_iff (s : ByteArray) : dotB s = true ↔ (46 : UInt8) ∈ s.data.toList := by
  unfold dotB
  rw [decide_eq_true_eq]
  refine ⟨fun h => ?_, fun h => ?_⟩
  · have h1 : Lib.indexByte s.data.toList 46 = ((Lib.indexByte s.data.toList 46).toNat : Int) := by omega
    exact List.mem_of_getElem? (Lib.indexByte_some h1).1
  · have hge := Lib.indexByte_ge s.data.toList 46
    rcases Int.lt_or_le (Lib.indexByte s.data.toList 46) 0 with h1 | h1
    · have h2 : Lib.indexByte s.data.toList 46 = -1 := by omega
      obtain ⟨k, hk⟩ := List.mem_iff_getElem?.1 h
      exact absurd hk (Lib.indexByte_none h2 k)
    · exact h1
theorem suf_list {s p : ByteArray} (h : sufS s p = true) : ∃ A, s.data.toList = A ++ p.data.toList := by
  unfold sufS at h
  simp only [Bool.and_eq_true, decide_eq_true_eq] at h
  obtain ⟨h1, h2⟩ := h
  have hl : s.data.toList.length = s.size := by simp
  have e : s.data.toList.drop (s.size - p.size) = p.data.toList := by
    have e2 : (s.extract (s.size - p.size) s.size).data.toList = p.data.toList := by rw [h2]
    rw [ext_L, List.take_of_length_le (by omega)] at e2
    exact e2
  exact ⟨s.data.toList.take (s.size - p.size), by rw [← e, List.take_append_drop]⟩
theorem suf_app {s p : ByteArray} {A : List UInt8} (h : s.data.toList = A ++ p.data.toList) : sufS s p = true ∧ cutS s p = toB A := by
  have hl : s.data.toList.length = s.size := by simp
  have hp : p.data.toList.length = p.size := by simp
  have h2 := congrArg List.length h
  rw [List.length_append, hl, hp] at h2
  have hs : sufS s p = true := by
    unfold sufS
    simp only [Bool.and_eq_true, decide_eq_true_eq]
    refine ⟨by omega, toL_ext ?_⟩
    rw [ext_L, List.take_of_length_le (by omega), h, show s.size - p.size = A.length by omega]
    exact List.drop_left ..
  refine ⟨hs, ?_⟩
  unfold cutS
  rw [if_pos hs]
  refine toL_ext ?_
  rw [ext_L, toB_list, List.drop_zero, h, show s.size - p.size = A.length by omega]
  exact List.take_left ..
theorem lns_free (c : UInt8) : ∀ L : List UInt8, ∀ p ∈ lns c L, ∀ b ∈ p, b ≠ c
  | [], p, hp, b, hb => by
    rw [lns, List.mem_singleton] at hp
    subst hp
    cases hb
  | x :: t, p, hp, b, hb => by
    have ih := lns_free c t
    rw [lns] at hp
    split at hp
    · rcases List.mem_cons.1 hp with rfl | hp
      · cases hb
      · exact ih p hp b hb
    · rename_i hx
      split at hp
      · rename_i q r e
        rcases List.mem_cons.1 hp with rfl | hp
        · rcases List.mem_cons.1 hb with rfl | hb
          · exact hx
          · exact ih q (by rw [e]; exact List.mem_cons_self) b hb
        · exact ih p (by rw [e]; exact List.mem_cons_of_mem _ hp) b hb
      · rw [List.mem_singleton] at hp
        subst hp
        rw [List.mem_singleton] at hb
        subst hb
        exact hx
theorem last_uniq {c : UInt8} : ∀ {A A' B B' : List UInt8}, (∀ b ∈ B, b ≠ c) → (∀ b ∈ B', b ≠ c) → A ++ c :: B = A' ++ c :: B' → A = A' ∧ B = B'
  | [], [], B, B', _, _, h => ⟨rfl, by simpa using h⟩
  | [], y :: A', B, B', hB, _, h => by
    injection h with h1 h2
    exact absurd rfl (hB c (by rw [h2]; simp))
  | x :: A, [], B, B', _, hB', h => by
    injection h with h1 h2
    exact absurd rfl (hB' c (by rw [← h2]; simp))
  | x :: A, y :: A', B, B', hB, hB', h => by
    injection h with h1 h2
    obtain ⟨h3, h4⟩ := last_uniq hB hB' h2
    exact ⟨by rw [h1, h3], h4⟩
/-- A page's kind, by the first part of its name. -/
def kindP (dir name lang : ByteArray) : Idn :=
  if name = (⟨#[95, 105, 110, 100, 101, 120]⟩ : ByteArray) then ⟨2, dir, lang⟩
  else if name = (⟨#[105, 110, 100, 101, 120]⟩ : ByteArray) then ⟨1, dir, lang⟩
  else if dir = ⟨#[]⟩ then ⟨0, name, lang⟩
  else ⟨0, dir ++ ⟨#[47]⟩ ++ name, lang⟩
/-- What the pieces of a name say. -/
def idP (dir : ByteArray) (P ls : List ByteArray) : Idn :=
  if P.getD 0 ⟨#[]⟩ = ⟨#[]⟩ ∨ ¬ P.getD (P.length - 1) ⟨#[]⟩ = (⟨#[112, 97, 103, 101]⟩ : ByteArray) ∨ P.length < 2 ∨ 3 < P.length then idNo
  else if P.length = 3 then (if inK ls ls.length (P.getD 1 ⟨#[]⟩) = true then kindP dir (P.getD 0 ⟨#[]⟩) (P.getD 1 ⟨#[]⟩) else idNo)
  else kindP dir (P.getD 0 ⟨#[]⟩) (ls.getD 0 ⟨#[]⟩)
def idL (dir l : ByteArray) (ls : List ByteArray) : Idn :=
  if sufS l (⟨#[46, 112, 97, 103, 101]⟩ : ByteArray) = false then idNo
  else if cutName ls (cutS l (⟨#[46, 112, 97, 103, 101]⟩ : ByteArray)) = true then idOf dir ((cutS l (⟨#[46, 112, 97, 103, 101]⟩ : ByteArray)).extract 0 (lastB (cutS l (⟨#[46, 112, 97, 103, 101]⟩ : ByteArray)) 46 (cutS l (⟨#[46, 112, 97, 103, 101]⟩ : ByteArray)).size).toNat) ((cutS l (⟨#[46, 112, 97, 103, 101]⟩ : ByteArray)).extract ((lastB (cutS l (⟨#[46, 112, 97, 103, 101]⟩ : ByteArray)) 46 (cutS l (⟨#[46, 112, 97, 103, 101]⟩ : ByteArray)).size) + 1).toNat (cutS l (⟨#[46, 112, 97, 103, 101]⟩ : ByteArray)).size)
  else idOf dir (cutS l (⟨#[46, 112, 97, 103, 101]⟩ : ByteArray)) (ls.getD 0 ⟨#[]⟩)
theorem idOf_free {dir lang : ByteArray} {a : List UInt8} (ha : ∀ b ∈ a, b ≠ (46 : UInt8)) : idOf dir (toB a) lang = if toB a = ⟨#[]⟩ then idNo else kindP dir (toB a) lang := by
  have hd : dotB (toB a) = false := Bool.eq_false_iff.2 (fun h => by
    rw [dotB_iff, toB_list] at h
    exact ha _ h rfl)
  unfold idOf kindP
  rw [hd]
  by_cases h : toB a = ⟨#[]⟩
  · rw [if_pos (.inl h), if_pos h]
  · rw [if_neg (by simp [h]), if_neg h]
theorem idOf_dot {dir lang : ByteArray} {a : List UInt8} (ha : (46 : UInt8) ∈ a) : idOf dir (toB a) lang = idNo := by
  have hd : dotB (toB a) = true := by rw [dotB_iff, toB_list]; exact ha
  unfold idOf
  rw [if_pos (.inr hd)]
theorem page_free : ∀ b ∈ ((⟨#[112, 97, 103, 101]⟩ : ByteArray) : ByteArray).data.toList, b ≠ (46 : UInt8) := by decide
theorem cut_free {ls : List ByteArray} {a : List UInt8} (ha : ∀ b ∈ a, b ≠ (46 : UInt8)) : cutName ls (toB a) = false := by
  unfold cutName
  rw [last_none a ha]
  rfl
theorem cut_app {ls : List ByteArray} {X w : List UInt8} (hw : ∀ b ∈ w, b ≠ (46 : UInt8)) :
    cutName ls (toB (X ++ 46 :: w)) = inK ls ls.length (toB w) ∧ (toB (X ++ 46 :: w)).extract 0 (lastB (toB (X ++ 46 :: w)) 46 (toB (X ++ 46 :: w)).size).toNat = toB X ∧ (toB (X ++ 46 :: w)).extract ((lastB (toB (X ++ 46 :: w)) 46 (toB (X ++ 46 :: w)).size) + 1).toNat (toB (X ++ 46 :: w)).size = toB w := by
  have e2 : (toB (X ++ 46 :: w)).extract ((X.length : Int) + 1).toNat (toB (X ++ 46 :: w)).size = toB w := by
    refine toL_ext ?_
    rw [ext_L, toB_list, toB_list, List.take_of_length_le (by rw [toB_size]; omega), show ((X.length : Int) + 1).toNat = X.length + 1 by omega]
    simp
  have e1 : (toB (X ++ 46 :: w)).extract 0 ((X.length : Int)).toNat = toB X := by
    refine toL_ext ?_
    rw [ext_L, toB_list, toB_list]
    simp
  unfold cutName
  rw [last_app X w hw, e1, e2]
  refine ⟨?_, rfl, rfl⟩
  rw [decide_eq_true (by omega), Bool.true_and]
theorem id_eq (dir l : ByteArray) (ls : List ByteArray) : idP dir (pcs l ⟨#[46]⟩) ls = idL dir l ls := by
  obtain ⟨i, z, h1, h2⟩ := lns_join 46 l.data.toList
  have hf := lns_free 46 l.data.toList
  have hz : ∀ b ∈ z, b ≠ (46 : UInt8) := hf z (by rw [h1]; simp)
  have hi : ∀ p ∈ i, ∀ b ∈ p, b ≠ (46 : UInt8) := fun p hp => hf p (by rw [h1]; simp [hp])
  rw [pcs_lns 46 _ l (Nat.lt_succ_self _), h1]
  clear h1 hf
  rcases List.eq_nil_or_concat i with rfl | ⟨i', w, rfl⟩
  · -- one piece
    have hs : sufS l (⟨#[46, 112, 97, 103, 101]⟩ : ByteArray) = false := Bool.eq_false_iff.2 (fun h => by
      obtain ⟨A, hA⟩ := suf_list h
      refine hz 46 ?_ rfl
      rw [h2] at hA
      have hA : z = A ++ [46, 112, 97, 103, 101] := by simpa using hA
      rw [hA]
      simp)
    unfold idP idL
    rw [if_pos (.inr (.inr (.inl (by simp)))), if_pos hs]
  · have hw : ∀ b ∈ w, b ≠ (46 : UInt8) := hi w (by simp)
    have h3 : l.data.toList = (i'.flatMap (· ++ [46]) ++ w) ++ 46 :: z := by rw [h2]; simp
    by_cases hp : toB z = (⟨#[112, 97, 103, 101]⟩ : ByteArray)
    · have hz2 : z = [112, 97, 103, 101] := by
        have := congrArg (fun b : ByteArray => b.data.toList) hp
        simpa [toB] using this
      subst hz2
      obtain ⟨s1, s2⟩ := suf_app (s := l) (p := (⟨#[46, 112, 97, 103, 101]⟩ : ByteArray)) (A := i'.flatMap (· ++ [46]) ++ w) h3
      unfold idL
      rw [if_neg (by rw [s1]; decide), s2]
      rcases List.eq_nil_or_concat i' with rfl | ⟨i2, x, rfl⟩
      · rw [List.flatMap_nil, List.nil_append, cut_free hw, if_neg (by decide), idOf_free hw]
        unfold idP
        by_cases h0 : toB w = ⟨#[]⟩
        · rw [if_pos (.inl (by simpa using h0)), if_pos h0]
        · rw [if_neg (by simp [h0, hp]), if_neg (by simp), if_neg h0]
          simp
      · have hx : ∀ b ∈ x, b ≠ (46 : UInt8) := hi x (by simp)
        have e : ((i2.concat x).flatMap (· ++ [46]) ++ w : List UInt8) = (i2.flatMap (· ++ [46]) ++ x) ++ 46 :: w := by simp
        obtain ⟨c1, c2, c3⟩ := cut_app (ls := ls) (X := i2.flatMap (· ++ [46]) ++ x) hw
        rw [e, c1, c2, c3]
        rcases List.eq_nil_or_concat i2 with rfl | ⟨i3, y, rfl⟩
        · rw [List.flatMap_nil, List.nil_append]
          rw [idOf_free hx, idOf_dot (a := x ++ 46 :: w) (by simp)]
          unfold idP
          by_cases h0 : toB x = ⟨#[]⟩
          · rw [if_pos (.inl (by simpa using h0)), if_pos h0]
            simp
          · rw [if_neg (by simp [h0, hp]), if_pos (by simp), if_neg h0]
            simp
        · rw [idOf_dot (a := (i3.concat y).flatMap (· ++ [46]) ++ x) (by simp), idOf_dot (a := (i3.concat y).flatMap (· ++ [46]) ++ x ++ 46 :: w) (by simp)]
          unfold idP
          rw [if_pos (.inr (.inr (.inr (by simp))))]
          simp
    · have hs : sufS l (⟨#[46, 112, 97, 103, 101]⟩ : ByteArray) = false := Bool.eq_false_iff.2 (fun h => by
        obtain ⟨A, hA⟩ := suf_list h
        rw [h3] at hA
        have hA : (i'.flatMap (· ++ [46]) ++ w) ++ 46 :: z = A ++ 46 :: [112, 97, 103, 101] := hA
        obtain ⟨_, h4⟩ := last_uniq hz (by decide) hA
        exact hp (by rw [h4]; rfl))
      unfold idP idL
      rw [if_pos (.inr (.inl (by simpa using hp))), if_pos hs]
theorem idn_eq (path : ByteArray) (ls : List ByteArray) : idnR path ls = idP (dirP path) (pcs (lstP path) ⟨#[46]⟩) ls := (id_eq _ _ _).symm
end ts
end Go.Proofs.YtdpbgpkjlbdbfaaGreatDoor
