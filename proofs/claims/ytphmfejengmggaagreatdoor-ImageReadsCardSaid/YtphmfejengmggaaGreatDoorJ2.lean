/-
  asset.ReadImage.
-/
import Derived.Test.YtphmfejengmggaaGreatDoorJ1
namespace Go.Proofs.YtphmfejengmggaaGreatDoor
open Go.RowKit
set_option linter.unusedVariables false
set_option linter.unusedSimpArgs false
namespace img
structure Img where
  w : Int
  h : Int
  lv : List Int
  e : Int
def errI (e : Int) : Img := ⟨0, 0, [], e⟩
def fin (w h : Int) (lv : List Int) : Img := if imgF w h lv = 0 then ⟨w, h, lv, 0⟩ else errI (imgF w h lv)
def encI (r : Img) : DD := .tup [encImg r.w r.h r.lv, i64 r.e]
def imageW : ByteArray := ⟨#[105, 109, 97, 103, 101]⟩
/-- Whether a first line is right. -/
def hdP (l : List ByteArray) : Prop := l.length = 3 ∧ l.getD 0 ⟨#[]⟩ = imageW ∧ indexB (l.getD 1 ⟨#[]⟩) = true ∧ indexB (l.getD 2 ⟨#[]⟩) = true
def cutL (s : ByteArray) : ByteArray := toB (Lib.cut s.data.toList [10]).1
def cutR (s : ByteArray) : ByteArray := toB (Lib.cut s.data.toList [10]).2.1
def cutO (s : ByteArray) : Bool := (Lib.cut s.data.toList [10]).2.2
theorem cut_size (s : ByteArray) : (cutL s).size ≤ s.size ∧ (cutR s).size ≤ s.size := by
  have h : (Lib.cut s.data.toList [10]).1.length ≤ s.data.toList.length ∧ (Lib.cut s.data.toList [10]).2.1.length ≤ s.data.toList.length := by
    unfold Lib.cut
    split
    · simp
      omega
    · simp
  exact h
open Classical in
/-- What an image in text reads as. -/
noncomputable def readI (s : ByteArray) : Img :=
  if 20000 < s.size then errI 4
  else if cutO s = true ∧ hdP (pcs (cutL s) ⟨#[32]⟩) ∧ assOk (numN ((pcs (cutL s) ⟨#[32]⟩).getD 1 ⟨#[]⟩)) (numN ((pcs (cutL s) ⟨#[32]⟩).getD 2 ⟨#[]⟩)) (cutR s).data.toList then
    fin (numN ((pcs (cutL s) ⟨#[32]⟩).getD 1 ⟨#[]⟩)) (numN ((pcs (cutL s) ⟨#[32]⟩).getD 2 ⟨#[]⟩)) (lvs (numN ((pcs (cutL s) ⟨#[32]⟩).getD 1 ⟨#[]⟩)) (bAt (cutR s)) (cutR s).size)
  else errI 8
theorem num_lt {p : ByteArray} (h : indexB p = true) : numN p < 10000 := by
  have hd := idx_digs h
  have h1 := nv_num hd.1 hd.2
  have h2 := hd.1
  unfold digs at h2
  have := nv_small h2 hd.2
  omega
def okAt (w : Nat) (R : ByteArray) (i : Nat) : Bool := if i % (w + 1) = w then decide (bAt R i = 10) else decide (0 ≤ hexv (bAt R i))
theorem assOk_iff (w h : Nat) (R : ByteArray) : assOk w h R.data.toList ↔ R.size = h * (w + 1) ∧ allN R.size (okAt w R) = true := by
  unfold assOk
  rw [allN_iff]
  have e : R.data.toList.length = R.size := by simp
  rw [e]
  refine and_congr_right fun _ => ⟨fun H i hi => ?_, fun H i hi => ?_⟩
  · have := H i hi
    unfold okAt
    split
    · rename_i h; rw [if_pos h] at this; exact decide_eq_true this
    · rename_i h; rw [if_neg h] at this; exact decide_eq_true this
  · have := H i hi
    unfold okAt at this
    split
    · rename_i h; rw [if_pos h] at this; exact of_decide_eq_true this
    · rename_i h; rw [if_neg h] at this; exact of_decide_eq_true this
theorem lvs_len (w : Nat) (f : Nat → UInt8) : ∀ k, (lvs w f k).length ≤ k
  | 0 => Nat.le_refl _
  | k + 1 => by
    have := lvs_len w f k
    rw [lvs]
    split
    · omega
    · simp; omega
section
variable (E : Env)
set_option maxRecDepth 100000
theorem row_int (l : List Int) (v : Int) (i j : Nat) (hi : i < l.length + 1) (hj : j < 1) : Dle (cx Tryz.prog mixed tyT_ok E) (if i < l.length then i64 (l.getD i 0) else ([.v (.int .i64 v)] : List DD).getD ((i - l.length + 0) * 1 + j) .opq) (i64 ((l ++ [v]).getD i 0)) := by
  rcases Nat.lt_or_ge i l.length with h | h
  · rw [if_pos h]
    exact Dle.of_eq (by simp only [List.getD]; rw [List.getElem?_append_left h])
  · obtain rfl : i = l.length := by omega
    obtain rfl : j = 0 := by omega
    rw [if_neg (by omega)]
    exact Dle.of_eq (by simp [List.getD, i64])
theorem cut_sp (hML : ∀ w, E.G w → ML w) (s : ByteArray) (hs : s.size < 4294967281) : Sp (cx Tryz.prog mixed tyT_ok E) 60 [dS s, dS ⟨#[10]⟩] (.tup [dS (cutL s), dS (cutR s), dB (cutO s)]) := by
  refine Sp.of_new (vs := [.string s, .string ⟨#[10]⟩]) ⟨_, _, Tryz.func60, by kernel_rfl, rfl⟩ ?_
  intro w hG hok
  obtain ⟨m, hm⟩ := hML w hG
  refine (Tryz.strings_Cut s ⟨#[10]⟩ m w hs hm).mono fun e w' ⟨he, n, hw⟩ => ?_
  subst hw
  have hsz := cut_size s
  refine ⟨_, he, (Below.refl _ _).trans ⟨rfl, rfl, rfl, Nat.le_refl _, fun _ _ => rfl⟩, fun M β => .tup rfl (fun i d hi => ?_)⟩
  match i, hi with
  | 0, hi =>
    obtain rfl : _ = d := by simpa using hi
    exact .v (decide_eq_true (show (cutL s).size ≤ 9223372036854775807 by omega))
  | 1, hi =>
    obtain rfl : _ = d := by simpa using hi
    exact .v (decide_eq_true (show (cutR s).size ≤ 9223372036854775807 by omega))
  | 2, hi =>
    obtain rfl : _ = d := by simpa using hi
    exact .v rfl
theorem indexHex_sp (c : UInt8) : Sp (cx Tryz.prog mixed tyT_ok E) 63 [dS hexs, .v (.int .u8 (c.toNat : Int))] (i64 (hexv c)) :=
  Sp.of_v (vs := [.string hexs, .int .u8 (c.toNat : Int)]) ⟨_, _, Tryz.func63, by kernel_rfl, rfl⟩ rfl (fun w _ => (Tryz.strings_IndexByte hexs (c.toNat : Int) w).mono fun e w' ⟨he, hb⟩ => ⟨by rw [he]; unfold hexv; simp, hb ▸ Below.refl _ _⟩)
theorem side_sp (p : ByteArray) : Sp (cx Tryz.prog mixed tyT_ok E) 62 [dS p] (.tup [i64 (if indexB p = true then numN p else 0), dB (indexB p)]) := by
  refine Sp.body Tryz.func62 (by kernel_rfl) rfl (by kernel_rfl) (by kernel_rfl) (by kernel_rfl) ?_
  repeat' first
    | (refine facW_intro ?_; intro _)
    | refine Or.inl ?_
    | ((conv => whnf); first | (refine condW_dec ?_ ?_ <;> intro _ <;> try (exfalso; omega)) | refine condW_not ?_ | (refine condW_bool ?_ ?_ <;> intro _ <;> try (exfalso; omega)) | (refine nbC_t (fun _ => ?_) ?_) | (refine nbC_f ?_ (fun _ => ?_)))
    | refine And.intro (by first | omega | (simp only [Int.toNat_natCast] at *; omega) | (simp only [Nat.reduceAdd, Int.cast_ofNat_Int, true_and, and_true]; omega) | kernel_rfl) ?_
    | refine RegW.run ?_
    | fail
  all_goals try (have hp0 := str_pos (s := p) (by assumption))
  all_goals
    repeat' first
      | (refine facW_intro ?_; intro _)
      | refine Or.inl ?_
      | ((conv => whnf); first | (refine condW_dec ?_ ?_ <;> intro _ <;> try (exfalso; omega)) | refine condW_not ?_ | (refine condW_bool ?_ ?_ <;> intro _ <;> try (exfalso; omega)) | (refine nbC_t (fun _ => ?_) ?_) | (refine nbC_f ?_ (fun _ => ?_)))
      | refine And.intro (by first | omega | (simp only [Int.toNat_natCast] at *; omega) | (simp only [Nat.reduceAdd, Int.cast_ofNat_Int, true_and, and_true]; omega) | kernel_rfl) ?_
      | refine RegW.run ?_
      | fail
  all_goals first
    | (rw [show indexB p = false by first | exact no_idx3 (by assumption) | exact no_idx2 (by omega) | exact no_idx4 (by simp only [Int.toNat_zero] at *; omega) (by assumption)]
       exact Dle.refl _ _)
    | skip
  all_goals
    refine ⟨Nat, fun q => [(5, i64 q), (4, i64 (nv p q))], fun q => [], [], fun q => [], fun q => q ≤ p.size ∧ q ≤ 4 ∧ allN q (fun i => digitB (bAt p i)) = true, fun q => p.size - q, ⟨0, ⟨Nat.zero_le _, Nat.zero_le _, rfl⟩, ⟨[], ⟨by kernel_rfl, by kernel_rfl, by kernel_rfl, by kernel_rfl, by kernel_rfl, by kernel_rfl, by kernel_rfl⟩, (by repeat' first | exact trivial | exact rfl | kernel_rfl | exact Dle.of_eq rfl | exact MLe.of_eq rfl | exact Dle.i (by omega) | exact Dle.i (by simp only [Int.toNat_natCast] at *; omega) | exact Dle.nil | exact Dle.rc Dle.nil | exact Option.some_ne_none _ | exact Or.inl rfl | exact Or.inr trivial | omega | (simp only [Int.toNat_natCast] at *; omega) | (intro _ _ _ _; exact Dle.of_eq rfl) | refine And.intro ?_ ?_)⟩⟩, fun q hq => ?_⟩
    obtain ⟨g1, g2, g3⟩ := hq
    have v0 : IntKind.u8.wrap (((bAt p ((q : Int)).toNat).toNat : Int) - 48) = dw p q := rfl
    have v1 : nv p (q + 1) = 10 * nv p q + dw p q := rfl
    have v2 := nv_small g3 g2
    have v3 := dw_range p q
    repeat' first
      | (refine facW_intro ?_; intro _)
      | refine Or.inl ?_
      | ((conv => whnf); first | (refine condW_dec ?_ ?_ <;> intro _ <;> try (exfalso; omega)) | refine condW_not ?_ | (refine condW_bool ?_ ?_ <;> intro _ <;> try (exfalso; omega)) | (refine nbC_t (fun _ => ?_) ?_) | (refine nbC_f ?_ (fun _ => ?_)))
      | refine And.intro (by first | omega | (simp only [Int.toNat_natCast] at *; omega) | (simp only [Nat.reduceAdd, Int.cast_ofNat_Int, true_and, and_true]; omega) | kernel_rfl) ?_
      | refine RegW.run ?_
      | refine ⟨_, a_isDigit_sp E _, ?_⟩
      | fail
    all_goals first
      | (rename_i h9
         exact ⟨q + 1, ⟨by omega, by omega, allN_succ g3 h9⟩, ⟨[], ⟨by kernel_rfl, by kernel_rfl, by kernel_rfl, by kernel_rfl, by kernel_rfl, by kernel_rfl, by kernel_rfl⟩, (by repeat' first | exact trivial | exact rfl | kernel_rfl | exact Dle.of_eq rfl | exact MLe.of_eq rfl | exact Dle.i (by omega) | exact Dle.i (by simp only [Int.toNat_natCast] at *; omega) | exact Dle.nil | exact Dle.rc Dle.nil | exact Option.some_ne_none _ | exact Or.inl rfl | exact Or.inr trivial | omega | (simp only [Int.toNat_natCast] at *; omega) | (intro _ _ _ _; exact Dle.of_eq rfl) | refine And.intro ?_ ?_)⟩, by first | omega | (dsimp only; omega)⟩)
      | (rename_i h9
         rw [show indexB p = false from no_idx1 (k := q) (by omega) h9]
         exact Dle.refl _ _)
      | (have hq : q = p.size := by omega
         subst hq
         have hix : indexB p = true := yes_idx hp0 g2 g3 (by first | (rintro ⟨-, h2⟩; exact h2 (by assumption)) | (rintro ⟨h2, -⟩; simp only [Int.toNat_zero] at *; omega))
         rw [hix, if_pos rfl, ← nv_num (idx_digs hix).1 (idx_digs hix).2]
         exact Dle.refl _ _)
      | trace_state
set_option maxHeartbeats 4000000 in
theorem readImage_sp (hML : ∀ w, E.G w → ML w) (s : ByteArray) : Sp (cx Tryz.prog mixed tyT_ok E) 15 [dS s] (encI (readI s)) := by
  obtain ⟨r, hr⟩ : ∃ r, r = readI s := ⟨_, rfl⟩
  rw [← hr]
  unfold readI at hr
  by_cases h0 : 20000 < s.size
  · rw [if_pos h0] at hr
    subst hr
    refine Sp.body Tryz.func15 (by kernel_rfl) rfl (by kernel_rfl) (by kernel_rfl) (by kernel_rfl) ?_
    repeat' first
      | (refine facW_intro ?_; intro _)
      | refine Or.inl ?_
      | ((conv => whnf); first | (refine condW_dec ?_ ?_ <;> intro _ <;> try (exfalso; omega)) | refine condW_not ?_ | (refine condW_bool ?_ ?_ <;> intro _ <;> try (exfalso; omega)) | (refine nbC_t (fun _ => ?_) ?_) | (refine nbC_f ?_ (fun _ => ?_)))
      | refine And.intro (by first | omega | (simp only [Int.toNat_natCast] at *; omega) | (simp only [Nat.reduceAdd, Int.cast_ofNat_Int, true_and, and_true]; omega) | kernel_rfl) ?_
      | refine RegW.run ?_
      | fail
    all_goals first
      | exact Dle.tup (X := (cx Tryz.prog mixed tyT_ok E)) ⟨Dle.agg (X := (cx Tryz.prog mixed tyT_ok E)) ⟨Dle.refl _ _, Dle.refl _ _, Dle.nil (X := (cx Tryz.prog mixed tyT_ok E)), trivial⟩, Dle.refl _ _, trivial⟩
      | trace_state
  · rw [if_neg h0] at hr
    have hz := cut_size s
    have h1 := cut_sp E hML s (by omega)
    have h2 := split_sp E hML (cutL s) ⟨#[32]⟩ (by omega) (by decide)
    have hle := fun p (hp : p ∈ pcs (cutL s) ⟨#[32]⟩) => pcs_le hp
    have hpl := pcs_len (cutL s) ⟨#[32]⟩ (by decide)
    generalize pcs (cutL s) ⟨#[32]⟩ = l at h2 hr hle
    generalize cutL s = line at h1 h2 hz
    generalize cutR s = R at h1 hr hz
    generalize cutO s = ok at h1 hr
    by_cases hh : ok = true ∧ hdP l
    · obtain ⟨hok, a1, a2, a3, a4⟩ := hh
      subst hok
      have h3 := side_sp E (l.getD 1 ⟨#[]⟩)
      have h4 := side_sp E (l.getD 2 ⟨#[]⟩)
      have b3 := num_lt a3
      have b4 := num_lt a4
      have hT : assOk (numN (l.getD 1 ⟨#[]⟩)) (numN (l.getD 2 ⟨#[]⟩)) R.data.toList → r = fin (numN (l.getD 1 ⟨#[]⟩)) (numN (l.getD 2 ⟨#[]⟩)) (lvs (numN (l.getD 1 ⟨#[]⟩)) (bAt R) R.size) := fun h => hr.trans (if_pos ⟨rfl, ⟨a1, a2, a3, a4⟩, h⟩)
      have hF : ¬ assOk (numN (l.getD 1 ⟨#[]⟩)) (numN (l.getD 2 ⟨#[]⟩)) R.data.toList → r = errI 8 := fun h => hr.trans (if_neg fun g => h g.2.2)
      clear hr
      rw [a3, if_pos rfl] at h3
      rw [a4, if_pos rfl] at h4
      generalize numN (l.getD 1 ⟨#[]⟩) = W at h3 hT hF b3
      generalize numN (l.getD 2 ⟨#[]⟩) = H at h4 hT hF b4
      have hm : (0 : Int) ≤ (H : Int) * ((W : Int) + 1) ∧ (H : Int) * ((W : Int) + 1) ≤ 100000000 := by
        have : H * (W + 1) ≤ 10000 * 10000 := Nat.mul_le_mul (by omega) (by omega)
        have e : ((H * (W + 1) : Nat) : Int) = (H : Int) * ((W : Int) + 1) := by push_cast; rfl
        omega
      have hm2 : ((H * (W + 1) : Nat) : Int) = (H : Int) * ((W : Int) + 1) := by push_cast; rfl
      rw [assOk_iff] at hT hF
      have hbad : (R.size = H * (W + 1) → allN R.size (okAt W R) = false) → r = errI 8 := fun h => by
        refine hF ?_
        rintro ⟨g1, g2⟩
        rw [h g1] at g2
        cases g2
      have hend : ∀ e : Img, e = errI 8 → Dle (cx Tryz.prog mixed tyT_ok E) (.tup [.agg [i64 0, i64 0, .v (.slice none 0 0)], i64 8]) (encI e) := fun e h => by rw [h]; exact Dle.tup (X := (cx Tryz.prog mixed tyT_ok E)) ⟨Dle.agg (X := (cx Tryz.prog mixed tyT_ok E)) ⟨Dle.refl _ _, Dle.refl _ _, Dle.nil (X := (cx Tryz.prog mixed tyT_ok E)), trivial⟩, Dle.refl _ _, trivial⟩
      by_cases hz3 : R.size = H * (W + 1)
      · have hz4 : (R.size : Int) = (H : Int) * ((W : Int) + 1) := by rw [← hm2, hz3]
        refine Sp.body Tryz.func15 (by kernel_rfl) rfl (by kernel_rfl) (by kernel_rfl) (by kernel_rfl) ?_
        repeat' first
          | (refine facW_intro ?_; intro _)
          | refine Or.inl ?_
          | ((conv => whnf); first | (refine condW_dec ?_ ?_ <;> intro _ <;> try (exfalso; omega)) | refine condW_not ?_ | (refine condW_bool ?_ ?_ <;> intro _ <;> try (exfalso; omega)) | (refine nbC_t (fun _ => ?_) ?_) | (refine nbC_f ?_ (fun _ => ?_)))
          | refine And.intro (by first | omega | (simp only [Int.toNat_natCast] at *; omega) | (simp only [Nat.reduceAdd, Int.cast_ofNat_Int, true_and, and_true]; omega) | kernel_rfl) ?_
          | refine RegW.run ?_
          | refine ⟨_, h1, ?_⟩
          | refine ⟨_, h2, ?_⟩
          | refine ⟨_, h3, ?_⟩
          | refine ⟨_, h4, ?_⟩
          | fail
        all_goals try (exfalso; first | (rename_i h; exact h a2) | (rename_i h; exact h rfl))
        refine ⟨Nat, fun k => [(13, i64 k)], fun k => [(12, .cells [i64 W, i64 H, .own 13 1 0 (lvs W (bAt R) k).length])], [2], fun k => [(13, 3, (lvs W (bAt R) k).length, fun i j => i64 ((lvs W (bAt R) k).getD i 0))], fun k => k ≤ R.size ∧ allN k (okAt W R) = true, fun k => R.size - k, ⟨0, ⟨by omega, rfl⟩, ⟨[(13, none)], ⟨by kernel_rfl, by kernel_rfl, by kernel_rfl, by kernel_rfl, by kernel_rfl, by kernel_rfl, by kernel_rfl⟩, (by repeat' first | exact trivial | exact rfl | kernel_rfl | exact Dle.of_eq rfl | exact MLe.of_eq rfl | exact Dle.i (by omega) | exact Dle.i (by simp only [Int.toNat_natCast] at *; omega) | exact Dle.nil | exact Dle.rc Dle.nil | exact Option.some_ne_none _ | exact Or.inl rfl | exact Or.inr trivial | omega | (simp only [Int.toNat_natCast] at *; omega) | (intro _ _ _ _; exact Dle.of_eq rfl) | refine And.intro ?_ ?_)⟩⟩, fun k hk => ?_⟩
        obtain ⟨hk, hall⟩ := hk
        have hln := lvs_len W (bAt R) k
        have hrem : ((k : Int)) % ((W : Int) + 1) = ((k % (W + 1) : Nat) : Int) := by push_cast; rfl
        have hno : k < R.size → okAt W R k = false → r = errI 8 := fun h1 h2 => hbad fun _ => allN_no h1 h2
        by_cases hlt : k < R.size
        · by_cases hm3 : k % (W + 1) = W
          · have e2 : lvs W (bAt R) (k + 1) = lvs W (bAt R) k := by rw [lvs, if_pos hm3]
            by_cases hc : bAt R k = 10
            · have hc' : ((bAt R ((k : Int)).toNat).toNat : Int) = 10 := by show ((bAt R k).toNat : Int) = 10; rw [hc]; rfl
              have hok : okAt W R k = true := by unfold okAt; rw [if_pos hm3, hc]; rfl
              repeat' first
                | (refine facW_intro ?_; intro _)
                | refine Or.inl ?_
                | ((conv => whnf); first | (refine condW_dec ?_ ?_ <;> intro _ <;> try (exfalso; omega)) | refine condW_not ?_ | (refine condW_bool ?_ ?_ <;> intro _ <;> try (exfalso; omega)) | (refine nbC_t (fun _ => ?_) ?_) | (refine nbC_f ?_ (fun _ => ?_)))
                | refine And.intro (by first | omega | (simp only [Int.toNat_natCast] at *; omega) | (simp only [Nat.reduceAdd, Int.cast_ofNat_Int, true_and, and_true]; omega) | kernel_rfl) ?_
                | refine RegW.run ?_
                | fail
              all_goals first
                | exact ⟨k + 1, ⟨by omega, allN_succ hall hok⟩, ⟨[(13, some 13)], ⟨by kernel_rfl, by kernel_rfl, by kernel_rfl, by kernel_rfl, by kernel_rfl, by kernel_rfl, by kernel_rfl⟩, (by repeat' first | ((rw [e2])) | exact trivial | exact rfl | kernel_rfl | exact Dle.of_eq rfl | exact MLe.of_eq rfl | exact Dle.i (by omega) | exact Dle.i (by simp only [Int.toNat_natCast] at *; omega) | exact Dle.nil | exact Dle.rc Dle.nil | exact Option.some_ne_none _ | exact Or.inl rfl | exact Or.inr trivial | omega | (simp only [Int.toNat_natCast] at *; omega) | (intro _ _ _ _; exact Dle.of_eq rfl) | (intro i j hi hj; (rw [e2]; exact Dle.refl _ _)) | refine And.intro ?_ ?_)⟩, by first | omega | (dsimp only; omega)⟩
                | trace_state
            · have hc' : ¬ ((bAt R ((k : Int)).toNat).toNat : Int) = 10 := fun h => hc (UInt8.toNat_inj.1 (by have h : ((bAt R k).toNat : Int) = 10 := h; show (bAt R k).toNat = 10; omega))
              have hr2 := hno hlt (by unfold okAt; rw [if_pos hm3]; exact decide_eq_false hc)
              repeat' first
                | (refine facW_intro ?_; intro _)
                | refine Or.inl ?_
                | ((conv => whnf); first | (refine condW_dec ?_ ?_ <;> intro _ <;> try (exfalso; omega)) | refine condW_not ?_ | (refine condW_bool ?_ ?_ <;> intro _ <;> try (exfalso; omega)) | (refine nbC_t (fun _ => ?_) ?_) | (refine nbC_f ?_ (fun _ => ?_)))
                | refine And.intro (by first | omega | (simp only [Int.toNat_natCast] at *; omega) | (simp only [Nat.reduceAdd, Int.cast_ofNat_Int, true_and, and_true]; omega) | kernel_rfl) ?_
                | refine RegW.run ?_
                | fail
              all_goals first
                | exact hend _ hr2
                | trace_state
          · have e2 : lvs W (bAt R) (k + 1) = lvs W (bAt R) k ++ [hexv (bAt R k)] := by rw [lvs, if_neg hm3]
            have e3 : (lvs W (bAt R) k).length + 1 = (lvs W (bAt R) (k + 1)).length := by rw [e2, List.length_append]; rfl
            have hx := hex_le (bAt R k)
            have h5 := indexHex_sp E (bAt R k)
            by_cases hc : 0 ≤ hexv (bAt R k)
            · have hok : okAt W R k = true := by unfold okAt; rw [if_neg hm3]; exact decide_eq_true hc
              repeat' first
                | (refine facW_intro ?_; intro _)
                | refine Or.inl ?_
                | ((conv => whnf); first | (refine condW_dec ?_ ?_ <;> intro _ <;> try (exfalso; omega)) | refine condW_not ?_ | (refine condW_bool ?_ ?_ <;> intro _ <;> try (exfalso; omega)) | (refine nbC_t (fun _ => ?_) ?_) | (refine nbC_f ?_ (fun _ => ?_)))
                | refine And.intro (by first | omega | (simp only [Int.toNat_natCast] at *; omega) | (simp only [Nat.reduceAdd, Int.cast_ofNat_Int, true_and, and_true]; omega) | kernel_rfl) ?_
                | refine RegW.run ?_
                | refine ⟨_, h5, ?_⟩
                | fail
              all_goals first
                | exact ⟨k + 1, ⟨by omega, allN_succ hall hok⟩, ⟨[(13, some 103)], ⟨by kernel_rfl, by kernel_rfl, by kernel_rfl, by kernel_rfl, by kernel_rfl, by kernel_rfl, by kernel_rfl⟩, (by repeat' first | (exact e3) | exact trivial | exact rfl | kernel_rfl | exact Dle.of_eq rfl | exact MLe.of_eq rfl | exact Dle.i (by omega) | exact Dle.i (by simp only [Int.toNat_natCast] at *; omega) | exact Dle.nil | exact Dle.rc Dle.nil | exact Option.some_ne_none _ | exact Or.inl rfl | exact Or.inr trivial | omega | (simp only [Int.toNat_natCast] at *; omega) | (intro _ _ _ _; exact Dle.of_eq rfl) | (intro i j hi hj; (rw [e2]; exact row_int E _ _ i j hi hj)) | refine And.intro ?_ ?_)⟩, by first | omega | (dsimp only; omega)⟩
                | trace_state
            · have hr2 := hno hlt (by unfold okAt; rw [if_neg hm3]; exact decide_eq_false hc)
              repeat' first
                | (refine facW_intro ?_; intro _)
                | refine Or.inl ?_
                | ((conv => whnf); first | (refine condW_dec ?_ ?_ <;> intro _ <;> try (exfalso; omega)) | refine condW_not ?_ | (refine condW_bool ?_ ?_ <;> intro _ <;> try (exfalso; omega)) | (refine nbC_t (fun _ => ?_) ?_) | (refine nbC_f ?_ (fun _ => ?_)))
                | refine And.intro (by first | omega | (simp only [Int.toNat_natCast] at *; omega) | (simp only [Nat.reduceAdd, Int.cast_ofNat_Int, true_and, and_true]; omega) | kernel_rfl) ?_
                | refine RegW.run ?_
                | refine ⟨_, h5, ?_⟩
                | fail
              all_goals first
                | exact hend _ hr2
                | trace_state
        · have hk2 : k = R.size := by omega
          subst hk2
          have hr := hT ⟨hz3, hall⟩
          have h5 := check_img_sp E W H (lvs W (bAt R) R.size) (by omega)
          unfold fin at hr
          clear hT hF hbad hno
          generalize imgF W H (lvs W (bAt R) R.size) = c at hr h5
          by_cases hc : c = 0
          · rw [if_pos hc] at hr
            subst hr hc
            repeat' first
              | (refine facW_intro ?_; intro _)
              | refine Or.inl ?_
              | ((conv => whnf); first | (refine condW_dec ?_ ?_ <;> intro _ <;> try (exfalso; omega)) | refine condW_not ?_ | (refine condW_bool ?_ ?_ <;> intro _ <;> try (exfalso; omega)) | (refine nbC_t (fun _ => ?_) ?_) | (refine nbC_f ?_ (fun _ => ?_)))
              | refine And.intro (by first | omega | (simp only [Int.toNat_natCast] at *; omega) | (simp only [Nat.reduceAdd, Int.cast_ofNat_Int, true_and, and_true]; omega) | kernel_rfl) ?_
              | refine RegW.run ?_
              | refine ⟨_, h5, ?_⟩
              | fail
            all_goals first
              | (exfalso; rename_i h; exact h rfl)
              | exact Dle.refl _ _
              | trace_state
          · rw [if_neg hc] at hr
            subst hr
            repeat' first
              | (refine facW_intro ?_; intro _)
              | refine Or.inl ?_
              | ((conv => whnf); first | (refine condW_dec ?_ ?_ <;> intro _ <;> try (exfalso; omega)) | refine condW_not ?_ | (refine condW_bool ?_ ?_ <;> intro _ <;> try (exfalso; omega)) | (refine nbC_t (fun _ => ?_) ?_) | (refine nbC_f ?_ (fun _ => ?_)))
              | refine And.intro (by first | omega | (simp only [Int.toNat_natCast] at *; omega) | (simp only [Nat.reduceAdd, Int.cast_ofNat_Int, true_and, and_true]; omega) | kernel_rfl) ?_
              | refine RegW.run ?_
              | refine ⟨_, h5, ?_⟩
              | fail
            all_goals first
              | exact Dle.tup (X := (cx Tryz.prog mixed tyT_ok E)) ⟨Dle.agg (X := (cx Tryz.prog mixed tyT_ok E)) ⟨Dle.refl _ _, Dle.refl _ _, Dle.nil (X := (cx Tryz.prog mixed tyT_ok E)), trivial⟩, Dle.refl _ _, trivial⟩
              | trace_state
      · have hz4 : ¬ (R.size : Int) = (H : Int) * ((W : Int) + 1) := fun h => hz3 (by omega)
        have hr2 := hbad fun h => absurd h hz3
        refine Sp.body Tryz.func15 (by kernel_rfl) rfl (by kernel_rfl) (by kernel_rfl) (by kernel_rfl) ?_
        repeat' first
          | (refine facW_intro ?_; intro _)
          | refine Or.inl ?_
          | ((conv => whnf); first | (refine condW_dec ?_ ?_ <;> intro _ <;> try (exfalso; omega)) | refine condW_not ?_ | (refine condW_bool ?_ ?_ <;> intro _ <;> try (exfalso; omega)) | (refine nbC_t (fun _ => ?_) ?_) | (refine nbC_f ?_ (fun _ => ?_)))
          | refine And.intro (by first | omega | (simp only [Int.toNat_natCast] at *; omega) | (simp only [Nat.reduceAdd, Int.cast_ofNat_Int, true_and, and_true]; omega) | kernel_rfl) ?_
          | refine RegW.run ?_
          | refine ⟨_, h1, ?_⟩
          | refine ⟨_, h2, ?_⟩
          | refine ⟨_, h3, ?_⟩
          | refine ⟨_, h4, ?_⟩
          | fail
        all_goals first
          | (exfalso; first | (rename_i h; exact h a2) | (rename_i h; exact h rfl))
          | exact hend _ hr2
          | trace_state
    · have hr2 : r = errI 8 := by
        exact hr.trans (if_neg fun g => hh ⟨g.1, g.2.1⟩)
      have hend : ∀ e : Img, e = errI 8 → Dle (cx Tryz.prog mixed tyT_ok E) (.tup [.agg [i64 0, i64 0, .v (.slice none 0 0)], i64 8]) (encI e) := fun e h => by rw [h]; exact Dle.tup (X := (cx Tryz.prog mixed tyT_ok E)) ⟨Dle.agg (X := (cx Tryz.prog mixed tyT_ok E)) ⟨Dle.refl _ _, Dle.refl _ _, Dle.nil (X := (cx Tryz.prog mixed tyT_ok E)), trivial⟩, Dle.refl _ _, trivial⟩
      by_cases hd : ok = true ∧ l.length = 3 ∧ l.getD 0 ⟨#[]⟩ = imageW
      · obtain ⟨rfl, a1, a2⟩ := hd
        have h3 := side_sp E (l.getD 1 ⟨#[]⟩)
        have h4 := side_sp E (l.getD 2 ⟨#[]⟩)
        have hn : indexB (l.getD 1 ⟨#[]⟩) = true → indexB (l.getD 2 ⟨#[]⟩) = false := fun h => by
          rw [Bool.eq_false_iff]
          exact fun g => hh ⟨rfl, a1, a2, h, g⟩
        generalize indexB (l.getD 1 ⟨#[]⟩) = q1 at h3 hn
        cases q1
        · rw [if_neg (by decide)] at h3
          generalize (if indexB (l.getD 2 ⟨#[]⟩) = true then ((numN (l.getD 2 ⟨#[]⟩) : Nat) : Int) else 0) = z at h4
          refine Sp.body Tryz.func15 (by kernel_rfl) rfl (by kernel_rfl) (by kernel_rfl) (by kernel_rfl) ?_
          repeat' first
            | (refine facW_intro ?_; intro _)
            | refine Or.inl ?_
            | ((conv => whnf); first | (refine condW_dec ?_ ?_ <;> intro _ <;> try (exfalso; omega)) | refine condW_not ?_ | (refine condW_bool ?_ ?_ <;> intro _ <;> try (exfalso; omega)) | (refine nbC_t (fun _ => ?_) ?_) | (refine nbC_f ?_ (fun _ => ?_)))
            | refine And.intro (by first | omega | (simp only [Int.toNat_natCast] at *; omega) | (simp only [Nat.reduceAdd, Int.cast_ofNat_Int, true_and, and_true]; omega) | kernel_rfl) ?_
            | refine RegW.run ?_
            | refine ⟨_, h1, ?_⟩
            | refine ⟨_, h2, ?_⟩
            | refine ⟨_, h3, ?_⟩
            | refine ⟨_, h4, ?_⟩
            | fail
          all_goals first
            | (exfalso; first | (rename_i h; exact h a2) | (rename_i h; exact h rfl))
            | exact hend _ hr2
            | trace_state
        · rw [hn rfl, if_neg (by decide)] at h4
          generalize (if true = true then ((numN (l.getD 1 ⟨#[]⟩) : Nat) : Int) else 0) = z at h3
          refine Sp.body Tryz.func15 (by kernel_rfl) rfl (by kernel_rfl) (by kernel_rfl) (by kernel_rfl) ?_
          repeat' first
            | (refine facW_intro ?_; intro _)
            | refine Or.inl ?_
            | ((conv => whnf); first | (refine condW_dec ?_ ?_ <;> intro _ <;> try (exfalso; omega)) | refine condW_not ?_ | (refine condW_bool ?_ ?_ <;> intro _ <;> try (exfalso; omega)) | (refine nbC_t (fun _ => ?_) ?_) | (refine nbC_f ?_ (fun _ => ?_)))
            | refine And.intro (by first | omega | (simp only [Int.toNat_natCast] at *; omega) | (simp only [Nat.reduceAdd, Int.cast_ofNat_Int, true_and, and_true]; omega) | kernel_rfl) ?_
            | refine RegW.run ?_
            | refine ⟨_, h1, ?_⟩
            | refine ⟨_, h2, ?_⟩
            | refine ⟨_, h3, ?_⟩
            | refine ⟨_, h4, ?_⟩
            | fail
          all_goals first
            | (exfalso; first | (rename_i h; exact h a2) | (rename_i h; exact h rfl))
            | exact hend _ hr2
            | trace_state
      · refine Sp.body Tryz.func15 (by kernel_rfl) rfl (by kernel_rfl) (by kernel_rfl) (by kernel_rfl) ?_
        repeat' first
          | (refine facW_intro ?_; intro _)
          | refine Or.inl ?_
          | ((conv => whnf); first | (refine condW_dec ?_ ?_ <;> intro _ <;> try (exfalso; omega)) | refine condW_not ?_ | (refine condW_bool ?_ ?_ <;> intro _ <;> try (exfalso; omega)) | (refine nbC_t (fun _ => ?_) ?_) | (refine nbC_f ?_ (fun _ => ?_)))
          | refine And.intro (by first | omega | (simp only [Int.toNat_natCast] at *; omega) | (simp only [Nat.reduceAdd, Int.cast_ofNat_Int, true_and, and_true]; omega) | kernel_rfl) ?_
          | refine RegW.run ?_
          | refine ⟨_, h1, ?_⟩
          | refine ⟨_, h2, ?_⟩
          | fail
        all_goals first
          | exact hend _ hr2
          | (exfalso
             refine hd ⟨?_, ?_, ?_⟩
             · assumption
             · omega
             · assumption)
          | trace_state
end
end img
end Go.Proofs.YtphmfejengmggaaGreatDoor
