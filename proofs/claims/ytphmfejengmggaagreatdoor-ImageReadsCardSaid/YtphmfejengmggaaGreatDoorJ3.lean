/-
  The reference's ReadImageOf.
-/
import Derived.Test.YtphmfejengmggaaGreatDoorJ2
namespace Go.Proofs.YtphmfejengmggaaGreatDoor
open Go.RowKit
set_option linter.unusedVariables false
set_option linter.unusedSimpArgs false
namespace img
def lineOk (w : Nat) (p : ByteArray) : Prop := p.size = w ∧ trimV p hexs = ⟨#[]⟩
def refP (w h : Nat) (ps : List ByteArray) : Prop := ps.length = h + 1 ∧ ps.getD h ⟨#[]⟩ = ⟨#[]⟩ ∧ ∀ k, k < h → lineOk w (ps.getD k ⟨#[]⟩)
def lvP (p : ByteArray) : List Int := p.data.toList.map hexv
theorem line_row (w : Nat) (p : List UInt8) : lineOk w (toB p) ↔ rowOk w p := by
  have hb : ∀ k (h : k < p.length), bAt (toB p) k = p[k] := fun k h => by
    show p.getD k 0 = _
    simp [List.getD, h]
  unfold lineOk rowOk
  rw [trimV_nil]
  refine and_congr Iff.rfl ⟨fun h b hm => ?_, fun h k hk => ?_⟩
  · obtain ⟨k, hk, rfl⟩ := List.getElem_of_mem hm
    have := h k hk
    rw [hb k hk] at this
    exact (hex_iff _).2 this
  · have hk : k < p.length := hk
    rw [hb k hk]
    exact (hex_iff _).1 (h _ (List.getElem_mem hk))
theorem ps_getD (l : List (List UInt8)) (k : Nat) (hk : k < l.length) : (l.map toB).getD k ⟨#[]⟩ = toB (l.getD k []) := by simp [List.getD, hk]
theorem toB_inj {p : List UInt8} : toB p = ⟨#[]⟩ ↔ p = [] := ⟨fun h => by
  have : (toB p).data.toList = [] := by rw [h]
  simpa [toB] using this, fun h => by rw [h]; rfl⟩
theorem ref_ps (w h : Nat) (R : List UInt8) : refOk w h R ↔ refP w h ((lns 10 R).map toB) := by
  unfold refOk refP
  rw [List.length_map]
  refine and_congr_right fun hl => and_congr ?_ ⟨fun H k hk => ?_, fun H k hk => ?_⟩
  · rw [ps_getD _ _ (by omega), toB_inj]
  · rw [ps_getD _ _ (by omega)]
    exact (line_row _ _).2 (H k hk)
  · have := H k hk
    rw [ps_getD _ _ (by omega)] at this
    exact (line_row _ _).1 this
theorem lv_ps (l : List (List UInt8)) (h : Nat) : ((l.map toB).take h).flatMap lvP = (l.take h).flatMap (fun p => p.map hexv) := by
  rw [← List.map_take, List.flatMap_map]
  rfl
open Classical in
/-- What both read, as the reference reads it. -/
theorem readI_ref {s : ByteArray} (h0 : ¬ 20000 < s.size) : readI s =
    if cutO s = true ∧ hdP (pcs (cutL s) ⟨#[32]⟩) ∧ refP (numN ((pcs (cutL s) ⟨#[32]⟩).getD 1 ⟨#[]⟩)) (numN ((pcs (cutL s) ⟨#[32]⟩).getD 2 ⟨#[]⟩)) (pcs (cutR s) ⟨#[10]⟩) then
      fin (numN ((pcs (cutL s) ⟨#[32]⟩).getD 1 ⟨#[]⟩)) (numN ((pcs (cutL s) ⟨#[32]⟩).getD 2 ⟨#[]⟩)) (((pcs (cutR s) ⟨#[10]⟩).take (numN ((pcs (cutL s) ⟨#[32]⟩).getD 2 ⟨#[]⟩))).flatMap lvP)
    else errI 8 := by
  unfold readI
  rw [if_neg h0, pcs_lns 10 _ (cutR s) (Nat.lt_succ_self _)]
  generalize numN ((pcs (cutL s) ⟨#[32]⟩).getD 1 ⟨#[]⟩) = W
  generalize numN ((pcs (cutL s) ⟨#[32]⟩).getD 2 ⟨#[]⟩) = H
  by_cases hr : refP W H ((lns 10 (cutR s).data.toList).map toB)
  · have hr' := (ref_ps W H _).2 hr
    have ha := (ass_ref W H _).2 hr'
    have e := ass_lvs hr'
    rw [lv_ps]
    have e2 : lvs W (bAt (cutR s)) (cutR s).size = lvs W (fun i => (cutR s).data.toList.getD i 0) (cutR s).data.toList.length := by
      have : (cutR s).size = (cutR s).data.toList.length := by simp
      rw [this]
      rfl
    rw [e2, e]
    simp only [hr, ha, and_true]
  · have ha : ¬ assOk W H (cutR s).data.toList := fun h => hr ((ref_ps W H _).1 ((ass_ref W H _).1 h))
    rw [if_neg (fun h => ha h.2.2), if_neg (fun h => hr h.2.2)]
theorem pcs_of_cut (s : ByteArray) : pcs s ⟨#[10]⟩ = if cutO s = true then cutL s :: pcs (cutR s) ⟨#[10]⟩ else [s] := pcs_cut s 10
section
variable (E : Env)
set_option maxRecDepth 100000
theorem trimId_sp {p : ByteArray} (h : dgB p = true) : Sp (cx Tryz.prog mixed tyT_ok E) 170 [dS p, dS ⟨#[45]⟩] (dS p) := by
  refine Sp.of_v2 (vs := [.string p, .string ⟨#[45]⟩]) ⟨_, _, Tryz.func170, by kernel_rfl, rfl⟩ ?_ ?_
  · intro h
    exact h (.string p) (by simp)
  · intro w _ _
    exact (Tryz.strings_TrimPrefix p ⟨#[45]⟩ w).mono fun e w' ⟨he, hb⟩ => ⟨by rw [he, unsigned_id h], hb ▸ Below.refl _ _⟩
theorem intForm_sp {p : ByteArray} (h : dgB p = true) : Sp (cx Tryz.prog mixed tyT_ok E) 67 [dS p] (dB (!decide ((bAt p 0).toNat = 48) || decide (p = ⟨#[48]⟩))) := by
  have h1 := trimId_sp E h
  have h2 := digitsAlone_sp E p
  have hp := dgB_pos h
  rw [h] at h2
  refine Sp.body Tryz.func67 (by kernel_rfl) rfl (by kernel_rfl) (by kernel_rfl) (by kernel_rfl) ?_
  repeat' first
    | (refine facW_intro ?_; intro _)
    | refine Or.inl ?_
    | ((conv => whnf); first | (refine condW_dec ?_ ?_ <;> intro _ <;> try (exfalso; omega)) | refine condW_not ?_ | (refine condW_bool ?_ ?_ <;> intro _ <;> try (exfalso; omega)) | (refine nbC_t (fun _ => ?_) ?_) | (refine nbC_f ?_ (fun _ => ?_)))
    | refine And.intro (by first | omega | (simp only [Int.toNat_natCast] at *; omega) | (simp only [Nat.reduceAdd, Int.cast_ofNat_Int, true_and, and_true]; omega) | kernel_rfl) ?_
    | refine RegW.run ?_
    | refine ⟨_, h1, ?_⟩
    | refine ⟨_, h2, ?_⟩
    | fail
  all_goals simp only [Int.toNat_zero] at *
  all_goals first
    | (exfalso; rename_i h; exact h rfl)
    | exact Dle.bo (by grind)
    | trace_state
theorem num_sp (p : ByteArray) : Sp (cx Tryz.prog mixed tyT_ok E) 65 [dS p] (.tup [i64 (if indexB p = true then numN p else 0), dB (indexB p)]) := by
  have h1 := digitsAlone_sp E p
  by_cases hx : indexB p = true
  · obtain ⟨hd, h4, h5⟩ := (idx_ref p).1 hx
    have h2 := intForm_sp E hd
    have h3 := atoi_sp E p (idx_digs hx).1 (dgB_pos hd) (idx_digs hx).2
    rw [hd] at h1
    rw [show (!decide ((bAt p 0).toNat = 48) || decide (p = ⟨#[48]⟩)) = true by grind] at h2
    rw [hx, if_pos rfl]
    refine Sp.body Tryz.func65 (by kernel_rfl) rfl (by kernel_rfl) (by kernel_rfl) (by kernel_rfl) ?_
    repeat' first
      | (refine facW_intro ?_; intro _)
      | refine Or.inl ?_
      | ((conv => whnf); first | (refine condW_dec ?_ ?_ <;> intro _ <;> try (exfalso; omega)) | refine condW_not ?_ | (refine condW_bool ?_ ?_ <;> intro _ <;> try (exfalso; omega)) | (refine nbC_t (fun _ => ?_) ?_) | (refine nbC_f ?_ (fun _ => ?_)))
      | refine And.intro (by first | omega | (simp only [Int.toNat_natCast] at *; omega) | (simp only [Nat.reduceAdd, Int.cast_ofNat_Int, true_and, and_true]; omega) | kernel_rfl) ?_
      | refine RegW.run ?_
      | refine ⟨_, h1, ?_⟩
      | refine ⟨_, h2, ?_⟩
      | refine ⟨_, h3, ?_⟩
      | fail
    all_goals first
      | (exfalso; rename_i h; exact h rfl)
      | exact Dle.refl _ _
      | trace_state
  · have hx : indexB p = false := by simpa using hx
    rw [hx, if_neg (by decide)]
    cases hd : dgB p
    · rw [hd] at h1
      refine Sp.body Tryz.func65 (by kernel_rfl) rfl (by kernel_rfl) (by kernel_rfl) (by kernel_rfl) ?_
      repeat' first
        | (refine facW_intro ?_; intro _)
        | refine Or.inl ?_
        | ((conv => whnf); first | (refine condW_dec ?_ ?_ <;> intro _ <;> try (exfalso; omega)) | refine condW_not ?_ | (refine condW_bool ?_ ?_ <;> intro _ <;> try (exfalso; omega)) | (refine nbC_t (fun _ => ?_) ?_) | (refine nbC_f ?_ (fun _ => ?_)))
        | refine And.intro (by first | omega | (simp only [Int.toNat_natCast] at *; omega) | (simp only [Nat.reduceAdd, Int.cast_ofNat_Int, true_and, and_true]; omega) | kernel_rfl) ?_
        | refine RegW.run ?_
        | refine ⟨_, h1, ?_⟩
        | fail
      all_goals first
        | (exfalso; rename_i h; exact h rfl)
        | exact Dle.refl _ _
        | trace_state
    · have h2 := intForm_sp E hd
      rw [hd] at h1
      obtain ⟨q, hq⟩ : ∃ q, q = (!decide ((bAt p 0).toNat = 48) || decide (p = ⟨#[48]⟩)) := ⟨_, rfl⟩
      rw [← hq] at h2
      refine Sp.body Tryz.func65 (by kernel_rfl) rfl (by kernel_rfl) (by kernel_rfl) (by kernel_rfl) ?_
      repeat' first
        | (refine facW_intro ?_; intro _)
        | refine Or.inl ?_
        | ((conv => whnf); first | (refine condW_dec ?_ ?_ <;> intro _ <;> try (exfalso; omega)) | refine condW_not ?_ | (refine condW_bool ?_ ?_ <;> intro _ <;> try (exfalso; omega)) | (refine nbC_t (fun _ => ?_) ?_) | (refine nbC_f ?_ (fun _ => ?_)))
        | refine And.intro (by first | omega | (simp only [Int.toNat_natCast] at *; omega) | (simp only [Nat.reduceAdd, Int.cast_ofNat_Int, true_and, and_true]; omega) | kernel_rfl) ?_
        | refine RegW.run ?_
        | refine ⟨_, h1, ?_⟩
        | refine ⟨_, h2, ?_⟩
        | fail
      all_goals first
        | (exfalso; rename_i h; exact h rfl)
        | exact Dle.refl _ _
        | (exfalso
           have := (idx_ref p).2 ⟨hd, by omega, by grind⟩
           rw [hx] at this
           cases this)
        | trace_state
end
end img
end Go.Proofs.YtphmfejengmggaaGreatDoor
