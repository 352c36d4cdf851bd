/-
  The reference's ReadImageOf: the walk; Alike over images; the law.
-/
import Derived.Test.YtphmfejengmggaaGreatDoorJ3
namespace Go.Proofs.YtphmfejengmggaaGreatDoor
open Go.RowKit
set_option linter.unusedVariables false
set_option linter.unusedSimpArgs false
namespace img
/-- The levels of the first k rows and of the first q bytes of the next. -/
def lvK (ps : List ByteArray) (k q : Nat) : List Int := (ps.take k).flatMap lvP ++ ((ps.getD k ⟨#[]⟩).data.toList.take q).map hexv
theorem lvK_zero (ps : List ByteArray) : lvK ps 0 0 = [] := by simp [lvK]
theorem lvK_next (ps : List ByteArray) (k q : Nat) (h : q < (ps.getD k ⟨#[]⟩).size) : lvK ps k (q + 1) = lvK ps k q ++ [hexv (bAt (ps.getD k ⟨#[]⟩) q)] := by
  unfold lvK
  rw [List.append_assoc]
  congr 1
  generalize ps.getD k ⟨#[]⟩ = p at h
  have h2 : q < p.data.toList.length := by simpa using h
  rw [List.take_add_one, List.map_append, List.getElem?_eq_getElem h2]
  have h3 : bAt p q = p.data.toList[q] := by unfold bAt; rw [List.getD, List.getElem?_eq_getElem h2]; rfl
  rw [h3]
  rfl
theorem lvK_row (ps : List ByteArray) (k : Nat) (h : k < ps.length) : lvK ps k (ps.getD k ⟨#[]⟩).size = lvK ps (k + 1) 0 := by
  unfold lvK
  rw [List.take_of_length_le (l := (ps.getD k ⟨#[]⟩).data.toList) (by simp), List.take_add_one, List.flatMap_append, List.getElem?_eq_getElem h]
  simp [List.getD, h, lvP]
theorem lvK_end (ps : List ByteArray) (k : Nat) : lvK ps k 0 = (ps.take k).flatMap lvP := by simp [lvK]
theorem lvK_len (ps : List ByteArray) (w : Nat) : ∀ k, (∀ i, i < k → (ps.getD i ⟨#[]⟩).size ≤ w) → k ≤ ps.length → (lvK ps k 0).length ≤ k * w
  | 0, _, _ => by rw [lvK_zero]; simp
  | k + 1, h, hk => by
    have ih := lvK_len ps w k (fun i hi => h i (by omega)) (by omega)
    have := h k (by omega)
    rw [← lvK_row ps k (by omega), Nat.succ_mul]
    rw [lvK_end] at ih
    unfold lvK
    simp only [List.length_append, List.length_map, List.length_take]
    omega
def lineB (w : Nat) (ps : List ByteArray) (k : Nat) : Bool := decide ((ps.getD k ⟨#[]⟩).size = w) && decide (trimV (ps.getD k ⟨#[]⟩) hexs = ⟨#[]⟩)
theorem lineB_iff (w : Nat) (ps : List ByteArray) (k : Nat) : lineB w ps k = true ↔ (ps.getD k ⟨#[]⟩).size = w ∧ trimV (ps.getD k ⟨#[]⟩) hexs = ⟨#[]⟩ := by unfold lineB; simp
section
variable (E : Env)
set_option maxRecDepth 100000
set_option maxHeartbeats 4000000 in
theorem readImageOf_sp (hML : ∀ w, E.G w → ML w) (s : ByteArray) : Sp (cx Tryz.prog mixed tyT_ok E) 16 [dS s] (encI (readI s)) := by
  obtain ⟨r, hr⟩ : ∃ r, r = readI s := ⟨_, rfl⟩
  rw [← hr]
  have hend : ∀ (e : Img) (c : Int), e = errI c → Dle (cx Tryz.prog mixed tyT_ok E) (.tup [.agg [i64 0, i64 0, .v (.slice none 0 0)], i64 c]) (encI e) := fun e c h => by rw [h]; exact Dle.tup (X := (cx Tryz.prog mixed tyT_ok E)) ⟨Dle.agg (X := (cx Tryz.prog mixed tyT_ok E)) ⟨Dle.refl _ _, Dle.refl _ _, Dle.nil (X := (cx Tryz.prog mixed tyT_ok E)), trivial⟩, Dle.refl _ _, trivial⟩
  by_cases h0 : 20000 < s.size
  · unfold readI at hr
    rw [if_pos h0] at hr
    refine Sp.body Tryz.func16 (by kernel_rfl) rfl (by kernel_rfl) (by kernel_rfl) (by kernel_rfl) ?_
    repeat' first
      | (refine facW_intro ?_; intro _)
      | refine Or.inl ?_
      | ((conv => whnf); first | (refine condW_dec ?_ ?_ <;> intro _ <;> try (exfalso; omega)) | refine condW_not ?_ | (refine condW_bool ?_ ?_ <;> intro _ <;> try (exfalso; omega)) | (refine nbC_t (fun _ => ?_) ?_) | (refine nbC_f ?_ (fun _ => ?_)))
      | refine And.intro (by first | omega | (simp only [Int.toNat_natCast] at *; omega) | (simp only [Nat.reduceAdd, Int.cast_ofNat_Int, true_and, and_true]; omega) | kernel_rfl) ?_
      | refine RegW.run ?_
      | fail
    all_goals first
      | exact hend _ _ hr
      | trace_state
  · rw [readI_ref h0] at hr
    have hz := cut_size s
    have h1 := split_sp E hML s ⟨#[10]⟩ (by omega) (by decide)
    rw [pcs_of_cut] at h1
    by_cases hok : cutO s = true
    · rw [if_pos hok] at h1
      have h2 := split_sp E hML (cutL s) ⟨#[32]⟩ (by omega) (by decide)
      have hps := fun p (hp : p ∈ pcs (cutR s) ⟨#[10]⟩) => pcs_le hp
      have hpl : (pcs (cutR s) ⟨#[10]⟩).length = Lib.countB (cutR s) ⟨#[10]⟩ + 1 := pcs_len _ _ (by decide)
      have hcb := Lib.countB_le ⟨#[10]⟩ (by decide) _ (cutR s) (Nat.le_refl _)
      have hp1 : 1 ≤ (pcs (cutR s) ⟨#[10]⟩).length := by omega
      have hp2 : (pcs (cutR s) ⟨#[10]⟩).length ≤ 20001 := by omega
      clear hpl hcb
      rw [hok] at hr
      generalize pcs (cutR s) ⟨#[10]⟩ = ps at h1 hr hps hp1 hp2
      generalize pcs (cutL s) ⟨#[32]⟩ = l at h2 hr
      generalize cutL s = line at h1 h2 hz
      generalize cutR s = R at hps hz
      have hL : (line :: ps).length = ps.length + 1 := rfl
      have hL0 : (line :: ps).getD 0 ⟨#[]⟩ = line := rfl
      have hLk : ∀ k, (line :: ps).getD (k + 1) ⟨#[]⟩ = ps.getD k ⟨#[]⟩ := fun k => rfl
      generalize line :: ps = L at h1 hL hL0 hLk
      have hn1 : (L.getD ((L.length : Int) - 1).toNat ⟨#[]⟩) = ps.getD (ps.length - 1) ⟨#[]⟩ := by
        rw [show ((L.length : Int) - 1).toNat = (ps.length - 1) + 1 by omega, hLk]
      by_cases hlast : ps.getD (ps.length - 1) ⟨#[]⟩ = ⟨#[]⟩
      · rw [hlast] at hn1
        by_cases hd : l.length = 3 ∧ l.getD 0 ⟨#[]⟩ = imageW
        · obtain ⟨a1, a2⟩ := hd
          have h3 := num_sp E (l.getD 1 ⟨#[]⟩)
          have h4 := num_sp E (l.getD 2 ⟨#[]⟩)
          by_cases hq : indexB (l.getD 1 ⟨#[]⟩) = true ∧ indexB (l.getD 2 ⟨#[]⟩) = true
          · obtain ⟨a3, a4⟩ := hq
            have b3 := num_lt a3
            have b4 := num_lt a4
            rw [a3, if_pos rfl] at h3
            rw [a4, if_pos rfl] at h4
            have hT : refP (numN (l.getD 1 ⟨#[]⟩)) (numN (l.getD 2 ⟨#[]⟩)) ps → r = fin (numN (l.getD 1 ⟨#[]⟩)) (numN (l.getD 2 ⟨#[]⟩)) ((ps.take (numN (l.getD 2 ⟨#[]⟩))).flatMap lvP) := fun h => hr.trans (if_pos ⟨rfl, ⟨a1, a2, a3, a4⟩, h⟩)
            have hF : ¬ refP (numN (l.getD 1 ⟨#[]⟩)) (numN (l.getD 2 ⟨#[]⟩)) ps → r = errI 8 := fun h => hr.trans (if_neg fun g => h g.2.2)
            clear hr
            generalize numN (l.getD 1 ⟨#[]⟩) = W at h3 hT hF b3
            generalize numN (l.getD 2 ⟨#[]⟩) = H at h4 hT hF b4
            rw [← hL0] at h2
            by_cases hH : ps.length = H + 1
            · have hbad : ∀ k, k < H → lineB W ps k = false → r = errI 8 := fun k hk h => hF fun g => by
                rw [(lineB_iff W ps k).2 (g.2.2 k hk)] at h
                cases h
              refine Sp.body Tryz.func16 (by kernel_rfl) rfl (by kernel_rfl) (by kernel_rfl) (by kernel_rfl) ?_
              repeat' first
                | (refine facW_intro ?_; intro _)
                | refine Or.inl ?_
                | ((conv => whnf); first | (refine condW_dec ?_ ?_ <;> intro _ <;> try (exfalso; omega)) | refine condW_not ?_ | (refine condW_bool ?_ ?_ <;> intro _ <;> try (exfalso; omega)) | (refine nbC_t (fun _ => ?_) ?_) | (refine nbC_f ?_ (fun _ => ?_)))
                | refine And.intro (by first | omega | (simp only [Int.toNat_natCast] at *; omega) | (simp only [Nat.reduceAdd, Int.cast_ofNat_Int, true_and, and_true]; omega) | kernel_rfl) ?_
                | refine RegW.run ?_
                | refine ⟨_, h1, ?_⟩
                | refine ⟨_, h2, ?_⟩
                | refine ⟨_, h3, ?_⟩
                | refine ⟨_, h4, ?_⟩
                | fail
              all_goals try (exfalso; first | (rename_i h; exact h a2) | (rename_i h; exact h rfl) | (rename_i h; exact h hn1))
              refine ⟨Nat, fun k => [(86, i64 k)], fun k => [(12, .cells [i64 W, i64 H, .own 86 1 0 (lvK ps k 0).length])], [2], fun k => [(86, 3, (lvK ps k 0).length, fun i j => i64 ((lvK ps k 0).getD i 0))], fun k => k ≤ H ∧ allN k (lineB W ps) = true, fun k => H - k, ⟨0, ⟨by omega, rfl⟩, ⟨[(86, none)], ⟨by kernel_rfl, by kernel_rfl, by kernel_rfl, by kernel_rfl, by kernel_rfl, by kernel_rfl, by kernel_rfl⟩, (by repeat' first | exact trivial | exact rfl | kernel_rfl | exact Dle.of_eq rfl | exact MLe.of_eq rfl | exact Dle.i (by omega) | exact Dle.i (by simp only [Int.toNat_natCast] at *; omega) | exact Dle.nil | exact Dle.rc Dle.nil | exact Option.some_ne_none _ | exact Or.inl rfl | exact Or.inr trivial | omega | (simp only [Int.toNat_natCast] at *; omega) | (intro _ _ _ _; exact Dle.of_eq rfl) | refine And.intro ?_ ?_)⟩⟩, fun k hk => ?_⟩
              obtain ⟨hk, hall⟩ := hk
              have hsz : ∀ i, i < k → (ps.getD i ⟨#[]⟩).size ≤ W := fun i hi => by
                have := ((lineB_iff W ps i).1 (allN_iff.1 hall i hi)).1
                omega
              have hln := lvK_len ps W k hsz (by omega)
              have hln2 : k * W ≤ 10000 * 10000 := Nat.mul_le_mul (by omega) (by omega)
              by_cases hlt : k < H
              · have hP : (L.getD (((k : Int)).toNat + Int.toNat 1) ⟨#[]⟩) = ps.getD k ⟨#[]⟩ := hLk k
                have hPs : (L.getD (((k : Int)).toNat + Int.toNat 1) ⟨#[]⟩).size ≤ 20000 := by
                  rw [hP]
                  have := hps _ (getD_mem ps ⟨#[]⟩ k (by omega))
                  omega
                have h5 := trim_sp E (L.getD (((k : Int)).toNat + Int.toNat 1) ⟨#[]⟩) hexs (by decide) (by decide)
                have hline := lineB_iff W ps k
                rw [← hP] at hline
                have e9 := lvK_row ps k (by omega)
                have e8 := fun q => lvK_next ps k q
                rw [← hP] at e9
                simp only [← hP] at e8
                have hb := hbad k hlt
                by_cases hl : lineB W ps k = true
                · obtain ⟨g1, g2⟩ := hline.1 hl
                  rw [g2] at h5
                  repeat' first
                    | (refine facW_intro ?_; intro _)
                    | refine Or.inl ?_
                    | ((conv => whnf); first | (refine condW_dec ?_ ?_ <;> intro _ <;> try (exfalso; omega)) | refine condW_not ?_ | (refine condW_bool ?_ ?_ <;> intro _ <;> try (exfalso; omega)) | (refine nbC_t (fun _ => ?_) ?_) | (refine nbC_f ?_ (fun _ => ?_)))
                    | refine And.intro (by first | omega | (simp only [Int.toNat_natCast] at *; omega) | (simp only [Nat.reduceAdd, Int.cast_ofNat_Int, true_and, and_true]; omega) | kernel_rfl) ?_
                    | refine RegW.run ?_
                    | refine ⟨_, h5, ?_⟩
                    | fail
                  all_goals try (exfalso; rename_i h; exact h rfl)
                  refine ⟨Nat, fun q => [(15, i64 q)], fun q => [(12, .cells [i64 W, i64 H, .own 15 1 0 (lvK ps k q).length])], [2], fun q => [(15, 3, (lvK ps k q).length, fun i j => i64 ((lvK ps k q).getD i 0))], fun q => q ≤ (L.getD (((k : Int)).toNat + Int.toNat 1) ⟨#[]⟩).size ∧ (lvK ps k q).length ≤ k * W + q, fun q => (L.getD (((k : Int)).toNat + Int.toNat 1) ⟨#[]⟩).size - q, ⟨0, ⟨Nat.zero_le _, hln⟩, ⟨[(15, some 86)], ⟨by kernel_rfl, by kernel_rfl, by kernel_rfl, by kernel_rfl, by kernel_rfl, by kernel_rfl, by kernel_rfl⟩, (by repeat' first | exact trivial | exact rfl | kernel_rfl | exact Dle.of_eq rfl | exact MLe.of_eq rfl | exact Dle.i (by omega) | exact Dle.i (by simp only [Int.toNat_natCast] at *; omega) | exact Dle.nil | exact Dle.rc Dle.nil | exact Option.some_ne_none _ | exact Or.inl rfl | exact Or.inr trivial | omega | (simp only [Int.toNat_natCast] at *; omega) | (intro _ _ _ _; exact Dle.of_eq rfl) | refine And.intro ?_ ?_)⟩⟩, fun q hq => ?_⟩
                  obtain ⟨hq2, hln3⟩ := hq
                  by_cases hlt2 : q < (L.getD (((k : Int)).toNat + Int.toNat 1) ⟨#[]⟩).size
                  · have e7 := e8 q hlt2
                    have e3 : (lvK ps k q).length + 1 = (lvK ps k (q + 1)).length := by rw [e7, List.length_append]; rfl
                    have hx := hex_le (bAt (L.getD (((k : Int)).toNat + Int.toNat 1) ⟨#[]⟩) q)
                    have h6 := indexHex_sp E (bAt (L.getD (((k : Int)).toNat + Int.toNat 1) ⟨#[]⟩) q)
                    repeat' first
                      | (refine facW_intro ?_; intro _)
                      | refine Or.inl ?_
                      | ((conv => whnf); first | (refine condW_dec ?_ ?_ <;> intro _ <;> try (exfalso; omega)) | refine condW_not ?_ | (refine condW_bool ?_ ?_ <;> intro _ <;> try (exfalso; omega)) | (refine nbC_t (fun _ => ?_) ?_) | (refine nbC_f ?_ (fun _ => ?_)))
                      | refine And.intro (by first | omega | (simp only [Int.toNat_natCast] at *; omega) | (simp only [Nat.reduceAdd, Int.cast_ofNat_Int, true_and, and_true]; omega) | kernel_rfl) ?_
                      | refine RegW.run ?_
                      | refine ⟨_, h6, ?_⟩
                      | fail
                    all_goals first
                      | exact ⟨q + 1, ⟨by omega, by omega⟩, ⟨[(15, some 113)], ⟨by kernel_rfl, by kernel_rfl, by kernel_rfl, by kernel_rfl, by kernel_rfl, by kernel_rfl, by kernel_rfl⟩, (by repeat' first | (exact e3) | exact trivial | exact rfl | kernel_rfl | exact Dle.of_eq rfl | exact MLe.of_eq rfl | exact Dle.i (by omega) | exact Dle.i (by simp only [Int.toNat_natCast] at *; omega) | exact Dle.nil | exact Dle.rc Dle.nil | exact Option.some_ne_none _ | exact Or.inl rfl | exact Or.inr trivial | omega | (simp only [Int.toNat_natCast] at *; omega) | (intro _ _ _ _; exact Dle.of_eq rfl) | (intro i j hi hj; (rw [e7]; exact row_int E _ _ i j hi hj)) | refine And.intro ?_ ?_)⟩, by first | omega | (dsimp only; omega)⟩
                      | trace_state
                  · have hq3 : q = (L.getD (((k : Int)).toNat + Int.toNat 1) ⟨#[]⟩).size := by omega
                    subst hq3
                    repeat' first
                      | (refine facW_intro ?_; intro _)
                      | refine Or.inl ?_
                      | ((conv => whnf); first | (refine condW_dec ?_ ?_ <;> intro _ <;> try (exfalso; omega)) | refine condW_not ?_ | (refine condW_bool ?_ ?_ <;> intro _ <;> try (exfalso; omega)) | (refine nbC_t (fun _ => ?_) ?_) | (refine nbC_f ?_ (fun _ => ?_)))
                      | refine And.intro (by first | omega | (simp only [Int.toNat_natCast] at *; omega) | (simp only [Nat.reduceAdd, Int.cast_ofNat_Int, true_and, and_true]; omega) | kernel_rfl) ?_
                      | refine RegW.run ?_
                      | fail
                    all_goals first
                      | exact ⟨k + 1, ⟨by omega, allN_succ hall hl⟩, ⟨[(86, some 15)], ⟨by kernel_rfl, by kernel_rfl, by kernel_rfl, by kernel_rfl, by kernel_rfl, by kernel_rfl, by kernel_rfl⟩, (by repeat' first | ((rw [e9])) | exact trivial | exact rfl | kernel_rfl | exact Dle.of_eq rfl | exact MLe.of_eq rfl | exact Dle.i (by omega) | exact Dle.i (by simp only [Int.toNat_natCast] at *; omega) | exact Dle.nil | exact Dle.rc Dle.nil | exact Option.some_ne_none _ | exact Or.inl rfl | exact Or.inr trivial | omega | (simp only [Int.toNat_natCast] at *; omega) | (intro _ _ _ _; exact Dle.of_eq rfl) | (intro i j hi hj; (rw [← e9]; exact Dle.refl _ _)) | refine And.intro ?_ ?_)⟩, by first | omega | (dsimp only; omega)⟩
                      | trace_state
                · have hr2 := hb (by simpa using hl)
                  have hl2 : (L.getD (((k : Int)).toNat + Int.toNat 1) ⟨#[]⟩).size = W → ¬ trimV (L.getD (((k : Int)).toNat + Int.toNat 1) ⟨#[]⟩) hexs = ⟨#[]⟩ := fun g1 g2 => hl (hline.2 ⟨g1, g2⟩)
                  generalize trimV (L.getD (((k : Int)).toNat + Int.toNat 1) ⟨#[]⟩) hexs = t at h5 hl2 hline
                  by_cases g1 : (L.getD (((k : Int)).toNat + Int.toNat 1) ⟨#[]⟩).size = W
                  · have hl3 := hl2 g1
                    repeat' first
                      | (refine facW_intro ?_; intro _)
                      | refine Or.inl ?_
                      | ((conv => whnf); first | (refine condW_dec ?_ ?_ <;> intro _ <;> try (exfalso; omega)) | refine condW_not ?_ | (refine condW_bool ?_ ?_ <;> intro _ <;> try (exfalso; omega)) | (refine nbC_t (fun _ => ?_) ?_) | (refine nbC_f ?_ (fun _ => ?_)))
                      | refine And.intro (by first | omega | (simp only [Int.toNat_natCast] at *; omega) | (simp only [Nat.reduceAdd, Int.cast_ofNat_Int, true_and, and_true]; omega) | kernel_rfl) ?_
                      | refine RegW.run ?_
                      | refine ⟨_, h5, ?_⟩
                      | fail
                    all_goals first
                      | exact hend _ _ hr2
                      | (exfalso; exact hl3 (by assumption))
                      | trace_state
                  · repeat' first
                      | (refine facW_intro ?_; intro _)
                      | refine Or.inl ?_
                      | ((conv => whnf); first | (refine condW_dec ?_ ?_ <;> intro _ <;> try (exfalso; omega)) | refine condW_not ?_ | (refine condW_bool ?_ ?_ <;> intro _ <;> try (exfalso; omega)) | (refine nbC_t (fun _ => ?_) ?_) | (refine nbC_f ?_ (fun _ => ?_)))
                      | refine And.intro (by first | omega | (simp only [Int.toNat_natCast] at *; omega) | (simp only [Nat.reduceAdd, Int.cast_ofNat_Int, true_and, and_true]; omega) | kernel_rfl) ?_
                      | refine RegW.run ?_
                      | refine ⟨_, h5, ?_⟩
                      | fail
                    all_goals first
                      | exact hend _ _ hr2
                      | trace_state
              · have hk2 : k = H := by omega
                subst hk2
                have hr2 := hT ⟨hH, by rw [show ps.length - 1 = k by omega] at hlast; exact hlast, fun i hi => (lineB_iff W ps i).1 (allN_iff.1 hall i hi)⟩
                rw [← lvK_end] at hr2
                have h5 := ref_img_sp E W k (lvK ps k 0) (by omega)
                clear hT hF hbad
                unfold fin at hr2
                generalize imgF W k (lvK ps k 0) = c at hr2 h5
                by_cases hc : c = 0
                · rw [if_pos hc] at hr2
                  subst hr2 hc
                  repeat' first
                    | (refine facW_intro ?_; intro _)
                    | refine Or.inl ?_
                    | ((conv => whnf); first | (refine condW_dec ?_ ?_ <;> intro _ <;> try (exfalso; omega)) | refine condW_not ?_ | (refine condW_bool ?_ ?_ <;> intro _ <;> try (exfalso; omega)) | (refine nbC_t (fun _ => ?_) ?_) | (refine nbC_f ?_ (fun _ => ?_)))
                    | refine And.intro (by first | omega | (simp only [Int.toNat_natCast] at *; omega) | (simp only [Nat.reduceAdd, Int.cast_ofNat_Int, true_and, and_true]; omega) | kernel_rfl) ?_
                    | refine RegW.run ?_
                    | refine ⟨_, h5, ?_⟩
                    | fail
                  all_goals first
                    | (exfalso; rename_i h; exact h rfl)
                    | exact Dle.refl _ _
                    | trace_state
                · rw [if_neg hc] at hr2
                  repeat' first
                    | (refine facW_intro ?_; intro _)
                    | refine Or.inl ?_
                    | ((conv => whnf); first | (refine condW_dec ?_ ?_ <;> intro _ <;> try (exfalso; omega)) | refine condW_not ?_ | (refine condW_bool ?_ ?_ <;> intro _ <;> try (exfalso; omega)) | (refine nbC_t (fun _ => ?_) ?_) | (refine nbC_f ?_ (fun _ => ?_)))
                    | refine And.intro (by first | omega | (simp only [Int.toNat_natCast] at *; omega) | (simp only [Nat.reduceAdd, Int.cast_ofNat_Int, true_and, and_true]; omega) | kernel_rfl) ?_
                    | refine RegW.run ?_
                    | refine ⟨_, h5, ?_⟩
                    | fail
                  all_goals first
                    | exact hend _ _ hr2
                    | trace_state
            · have hr2 := hF fun g => hH g.1
              refine Sp.body Tryz.func16 (by kernel_rfl) rfl (by kernel_rfl) (by kernel_rfl) (by kernel_rfl) ?_
              repeat' first
                | (refine facW_intro ?_; intro _)
                | refine Or.inl ?_
                | ((conv => whnf); first | (refine condW_dec ?_ ?_ <;> intro _ <;> try (exfalso; omega)) | refine condW_not ?_ | (refine condW_bool ?_ ?_ <;> intro _ <;> try (exfalso; omega)) | (refine nbC_t (fun _ => ?_) ?_) | (refine nbC_f ?_ (fun _ => ?_)))
                | refine And.intro (by first | omega | (simp only [Int.toNat_natCast] at *; omega) | (simp only [Nat.reduceAdd, Int.cast_ofNat_Int, true_and, and_true]; omega) | kernel_rfl) ?_
                | refine RegW.run ?_
                | refine ⟨_, h1, ?_⟩
                | refine ⟨_, h2, ?_⟩
                | refine ⟨_, h3, ?_⟩
                | refine ⟨_, h4, ?_⟩
                | fail
              all_goals first
                | exact hend _ _ hr2
                | (exfalso; first | (rename_i h; exact h a2) | (rename_i h; exact h rfl) | (rename_i h; exact h hn1))
                | trace_state
          · have hr2 : r = errI 8 := hr.trans (if_neg fun g => hq ⟨g.2.1.2.2.1, g.2.1.2.2.2⟩)
            rw [← hL0] at h2
            have hn : indexB (l.getD 1 ⟨#[]⟩) = true → indexB (l.getD 2 ⟨#[]⟩) = false := fun h => by
              rw [Bool.eq_false_iff]
              exact fun g => hq ⟨h, g⟩
            generalize indexB (l.getD 1 ⟨#[]⟩) = q1 at h3 hn
            cases q1
            · rw [if_neg (by decide)] at h3
              generalize (if indexB (l.getD 2 ⟨#[]⟩) = true then ((numN (l.getD 2 ⟨#[]⟩) : Nat) : Int) else 0) = z at h4
              refine Sp.body Tryz.func16 (by kernel_rfl) rfl (by kernel_rfl) (by kernel_rfl) (by kernel_rfl) ?_
              repeat' first
                | (refine facW_intro ?_; intro _)
                | refine Or.inl ?_
                | ((conv => whnf); first | (refine condW_dec ?_ ?_ <;> intro _ <;> try (exfalso; omega)) | refine condW_not ?_ | (refine condW_bool ?_ ?_ <;> intro _ <;> try (exfalso; omega)) | (refine nbC_t (fun _ => ?_) ?_) | (refine nbC_f ?_ (fun _ => ?_)))
                | refine And.intro (by first | omega | (simp only [Int.toNat_natCast] at *; omega) | (simp only [Nat.reduceAdd, Int.cast_ofNat_Int, true_and, and_true]; omega) | kernel_rfl) ?_
                | refine RegW.run ?_
                | refine ⟨_, h1, ?_⟩
                | refine ⟨_, h2, ?_⟩
                | refine ⟨_, h3, ?_⟩
                | refine ⟨_, h4, ?_⟩
                | fail
              all_goals first
                | exact hend _ _ hr2
                | (exfalso; first | (rename_i h; exact h a2) | (rename_i h; exact h rfl) | (rename_i h; exact h hn1))
                | trace_state
            · rw [hn rfl, if_neg (by decide)] at h4
              generalize (if true = true then ((numN (l.getD 1 ⟨#[]⟩) : Nat) : Int) else 0) = z at h3
              refine Sp.body Tryz.func16 (by kernel_rfl) rfl (by kernel_rfl) (by kernel_rfl) (by kernel_rfl) ?_
              repeat' first
                | (refine facW_intro ?_; intro _)
                | refine Or.inl ?_
                | ((conv => whnf); first | (refine condW_dec ?_ ?_ <;> intro _ <;> try (exfalso; omega)) | refine condW_not ?_ | (refine condW_bool ?_ ?_ <;> intro _ <;> try (exfalso; omega)) | (refine nbC_t (fun _ => ?_) ?_) | (refine nbC_f ?_ (fun _ => ?_)))
                | refine And.intro (by first | omega | (simp only [Int.toNat_natCast] at *; omega) | (simp only [Nat.reduceAdd, Int.cast_ofNat_Int, true_and, and_true]; omega) | kernel_rfl) ?_
                | refine RegW.run ?_
                | refine ⟨_, h1, ?_⟩
                | refine ⟨_, h2, ?_⟩
                | refine ⟨_, h3, ?_⟩
                | refine ⟨_, h4, ?_⟩
                | fail
              all_goals first
                | exact hend _ _ hr2
                | (exfalso; first | (rename_i h; exact h a2) | (rename_i h; exact h rfl) | (rename_i h; exact h hn1))
                | trace_state
        · have hr2 : r = errI 8 := hr.trans (if_neg fun g => hd ⟨g.2.1.1, g.2.1.2.1⟩)
          rw [← hL0] at h2
          refine Sp.body Tryz.func16 (by kernel_rfl) rfl (by kernel_rfl) (by kernel_rfl) (by kernel_rfl) ?_
          repeat' first
            | (refine facW_intro ?_; intro _)
            | refine Or.inl ?_
            | ((conv => whnf); first | (refine condW_dec ?_ ?_ <;> intro _ <;> try (exfalso; omega)) | refine condW_not ?_ | (refine condW_bool ?_ ?_ <;> intro _ <;> try (exfalso; omega)) | (refine nbC_t (fun _ => ?_) ?_) | (refine nbC_f ?_ (fun _ => ?_)))
            | refine And.intro (by first | omega | (simp only [Int.toNat_natCast] at *; omega) | (simp only [Nat.reduceAdd, Int.cast_ofNat_Int, true_and, and_true]; omega) | kernel_rfl) ?_
            | refine RegW.run ?_
            | refine ⟨_, h1, ?_⟩
            | refine ⟨_, h2, ?_⟩
            | fail
          all_goals first
            | exact hend _ _ hr2
            | (exfalso
               refine hd ⟨?_, ?_⟩
               · omega
               · assumption)
            | trace_state
      · have hr2 : r = errI 8 := hr.trans (if_neg fun g => by
          obtain ⟨-, -, g1, g2, -⟩ := g
          rw [show numN (l.getD 2 ⟨#[]⟩) = ps.length - 1 by omega] at g2
          exact hlast g2)
        refine Sp.body Tryz.func16 (by kernel_rfl) rfl (by kernel_rfl) (by kernel_rfl) (by kernel_rfl) ?_
        repeat' first
          | (refine facW_intro ?_; intro _)
          | refine Or.inl ?_
          | ((conv => whnf); first | (refine condW_dec ?_ ?_ <;> intro _ <;> try (exfalso; omega)) | refine condW_not ?_ | (refine condW_bool ?_ ?_ <;> intro _ <;> try (exfalso; omega)) | (refine nbC_t (fun _ => ?_) ?_) | (refine nbC_f ?_ (fun _ => ?_)))
          | refine And.intro (by first | omega | (simp only [Int.toNat_natCast] at *; omega) | (simp only [Nat.reduceAdd, Int.cast_ofNat_Int, true_and, and_true]; omega) | kernel_rfl) ?_
          | refine RegW.run ?_
          | refine ⟨_, h1, ?_⟩
          | refine ⟨_, h2, ?_⟩
          | fail
        all_goals first
          | exact hend _ _ hr2
          | (exfalso
             have h : L.getD (↑L.length - 1 : Int).toNat ⟨#[]⟩ = ⟨#[]⟩ := by assumption
             exact hlast (hn1.symm.trans h))
          | trace_state
    · have hr2 : r = errI 8 := hr.trans (if_neg fun g => hok g.1)
      rw [if_neg hok] at h1
      have hL : ([s] : List ByteArray).length = 1 := rfl
      generalize ([s] : List ByteArray) = L at h1 hL
      refine Sp.body Tryz.func16 (by kernel_rfl) rfl (by kernel_rfl) (by kernel_rfl) (by kernel_rfl) ?_
      repeat' first
        | (refine facW_intro ?_; intro _)
        | refine Or.inl ?_
        | ((conv => whnf); first | (refine condW_dec ?_ ?_ <;> intro _ <;> try (exfalso; omega)) | refine condW_not ?_ | (refine condW_bool ?_ ?_ <;> intro _ <;> try (exfalso; omega)) | (refine nbC_t (fun _ => ?_) ?_) | (refine nbC_f ?_ (fun _ => ?_)))
        | refine And.intro (by first | omega | (simp only [Int.toNat_natCast] at *; omega) | (simp only [Nat.reduceAdd, Int.cast_ofNat_Int, true_and, and_true]; omega) | kernel_rfl) ?_
        | refine RegW.run ?_
        | refine ⟨_, h1, ?_⟩
        | fail
      all_goals first
        | exact hend _ _ hr2
        | trace_state
end
end img
end Go.Proofs.YtphmfejengmggaaGreatDoor
