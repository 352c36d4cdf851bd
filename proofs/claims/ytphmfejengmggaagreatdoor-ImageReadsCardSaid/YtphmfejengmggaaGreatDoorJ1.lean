/-
  Images: numbers of at most four digits, what is wrong with an image.
-/
import Derived.Test.YtphmfejengmggaaGreatDoorJ0
namespace Go.Proofs.YtphmfejengmggaaGreatDoor
open Go.RowKit
set_option linter.unusedVariables false
set_option linter.unusedSimpArgs false
namespace img
/-- A digit's number, as the code reckons it; a number's first digits. -/
def dw (s : ByteArray) (k : Nat) : Int := IntKind.u8.wrap (((bAt s k).toNat : Int) - 48)
theorem dw_eq {s : ByteArray} {k : Nat} (h : digitB (bAt s k) = true) : dw s k = ((bAt s k).toNat : Int) - 48 := by
  have := digitB_iff.1 h
  unfold dw
  simp only [IntKind.wrap, IntKind.bits, IntKind.signed]
  simp
  omega
def nv (s : ByteArray) : Nat → Int
  | 0 => 0
  | k + 1 => 10 * nv s k + dw s k
theorem nv_bound {s : ByteArray} : ∀ (k : Nat), allN k (fun i => digitB (bAt s i)) = true → 0 ≤ nv s k ∧ nv s k < 10 ^ k
  | 0, _ => by simp [nv]
  | k + 1, h => by
    have h1 := allN_iff.1 h
    obtain ⟨h2, h3⟩ := nv_bound k (allN_iff.2 fun i hi => h1 i (by omega))
    have h4 := dw_eq (h1 k (by omega))
    have h5 := digitB_iff.1 (h1 k (by omega))
    rw [nv, Int.pow_succ]
    omega
theorem nv_small {s : ByteArray} {k : Nat} (h : allN k (fun i => digitB (bAt s i)) = true) (hk : k ≤ 4) : 0 ≤ nv s k ∧ nv s k < 10000 := by
  obtain ⟨h1, h2⟩ := nv_bound k h
  have : (10 : Int) ^ k ≤ 10 ^ 4 := by
    match k, hk with
    | 0, _ => decide
    | 1, _ => decide
    | 2, _ => decide
    | 3, _ => decide
    | 4, _ => decide
  omega
theorem nv_num {s : ByteArray} (h : digs s = true) (h1 : s.size ≤ 4) : nv s s.size = numN s := by
  unfold digs at h
  have hd := allN_iff.1 h
  cases s with | mk d =>
  cases d with | mk l =>
  match l, h1, hd with
  | [], _, _ => rfl
  | [a], _, hd =>
    have g0 : digitB a = true := hd 0 (by decide : 0 < 1)
    have e0 : dw ⟨#[a]⟩ 0 = (a.toNat : Int) - 48 := dw_eq (s := ⟨#[a]⟩) (k := 0) g0
    have f0 := digitB_iff.1 g0
    show 10 * 0 + dw ⟨#[a]⟩ 0 = _
    rw [e0]
    unfold numN
    simp only [Lib.parseUint10]
    repeat (first | rw [if_pos (by omega)] | rw [if_neg (by omega)])
    simp only
    omega
  | [a, b], _, hd =>
    have g0 : digitB a = true := hd 0 (by decide : 0 < 2)
    have g1 : digitB b = true := hd 1 (by decide : 1 < 2)
    have e0 : dw ⟨#[a, b]⟩ 0 = (a.toNat : Int) - 48 := dw_eq (s := ⟨#[a, b]⟩) (k := 0) g0
    have e1 : dw ⟨#[a, b]⟩ 1 = (b.toNat : Int) - 48 := dw_eq (s := ⟨#[a, b]⟩) (k := 1) g1
    have f0 := digitB_iff.1 g0
    have f1 := digitB_iff.1 g1
    show 10 * (10 * 0 + dw ⟨#[a, b]⟩ 0) + dw ⟨#[a, b]⟩ 1 = _
    rw [e0, e1]
    unfold numN
    simp only [Lib.parseUint10]
    repeat (first | rw [if_pos (by omega)] | rw [if_neg (by omega)])
    simp only
    omega
  | [a, b, c], _, hd =>
    have g0 : digitB a = true := hd 0 (by decide : 0 < 3)
    have g1 : digitB b = true := hd 1 (by decide : 1 < 3)
    have g2 : digitB c = true := hd 2 (by decide : 2 < 3)
    have e0 : dw ⟨#[a, b, c]⟩ 0 = (a.toNat : Int) - 48 := dw_eq (s := ⟨#[a, b, c]⟩) (k := 0) g0
    have e1 : dw ⟨#[a, b, c]⟩ 1 = (b.toNat : Int) - 48 := dw_eq (s := ⟨#[a, b, c]⟩) (k := 1) g1
    have e2 : dw ⟨#[a, b, c]⟩ 2 = (c.toNat : Int) - 48 := dw_eq (s := ⟨#[a, b, c]⟩) (k := 2) g2
    have f0 := digitB_iff.1 g0
    have f1 := digitB_iff.1 g1
    have f2 := digitB_iff.1 g2
    show 10 * (10 * (10 * 0 + dw ⟨#[a, b, c]⟩ 0) + dw ⟨#[a, b, c]⟩ 1) + dw ⟨#[a, b, c]⟩ 2 = _
    rw [e0, e1, e2]
    unfold numN
    simp only [Lib.parseUint10]
    repeat (first | rw [if_pos (by omega)] | rw [if_neg (by omega)])
    simp only
    omega
  | [a, b, c, e], _, hd =>
    have g0 : digitB a = true := hd 0 (by decide : 0 < 4)
    have g1 : digitB b = true := hd 1 (by decide : 1 < 4)
    have g2 : digitB c = true := hd 2 (by decide : 2 < 4)
    have g3 : digitB e = true := hd 3 (by decide : 3 < 4)
    have e0 : dw ⟨#[a, b, c, e]⟩ 0 = (a.toNat : Int) - 48 := dw_eq (s := ⟨#[a, b, c, e]⟩) (k := 0) g0
    have e1 : dw ⟨#[a, b, c, e]⟩ 1 = (b.toNat : Int) - 48 := dw_eq (s := ⟨#[a, b, c, e]⟩) (k := 1) g1
    have e2 : dw ⟨#[a, b, c, e]⟩ 2 = (c.toNat : Int) - 48 := dw_eq (s := ⟨#[a, b, c, e]⟩) (k := 2) g2
    have e3 : dw ⟨#[a, b, c, e]⟩ 3 = (e.toNat : Int) - 48 := dw_eq (s := ⟨#[a, b, c, e]⟩) (k := 3) g3
    have f0 := digitB_iff.1 g0
    have f1 := digitB_iff.1 g1
    have f2 := digitB_iff.1 g2
    have f3 := digitB_iff.1 g3
    show 10 * (10 * (10 * (10 * 0 + dw ⟨#[a, b, c, e]⟩ 0) + dw ⟨#[a, b, c, e]⟩ 1) + dw ⟨#[a, b, c, e]⟩ 2) + dw ⟨#[a, b, c, e]⟩ 3 = _
    rw [e0, e1, e2, e3]
    unfold numN
    simp only [Lib.parseUint10]
    repeat (first | rw [if_pos (by omega)] | rw [if_neg (by omega)])
    simp only
    omega
theorem no_idx1 {p : ByteArray} {k : Nat} (hk : k < p.size) (h : digitB (bAt p k) = false) : indexB p = false := by
  unfold indexB digs
  rw [allN_no hk h]
  simp
theorem no_idx2 {p : ByteArray} (h : 4 < p.size) : indexB p = false := by
  unfold indexB
  rw [decide_eq_false (p := p.size ≤ 4) (by omega)]
  simp
theorem no_idx3 {p : ByteArray} (h : p = ⟨#[]⟩) : indexB p = false := by subst h; unfold indexB; rfl
theorem no_idx4 {p : ByteArray} (h : (bAt p 0).toNat = 48) (h2 : ¬ p = ⟨#[48]⟩) : indexB p = false := by
  have h3 : bAt p 0 = 48 := UInt8.toNat_inj.1 h
  unfold indexB
  rw [decide_eq_true h3, decide_eq_false h2]
  simp
theorem yes_idx {p : ByteArray} (h0 : 0 < p.size) (h4 : p.size ≤ 4) (hd : allN p.size (fun k => digitB (bAt p k)) = true) (h : ¬ ((bAt p 0).toNat = 48 ∧ ¬ p = ⟨#[48]⟩)) : indexB p = true := by
  unfold indexB digs
  rw [hd, decide_eq_true h0, decide_eq_true h4]
  by_cases h5 : p = ⟨#[48]⟩
  · rw [decide_eq_true h5]; simp
  · rw [decide_eq_false (p := bAt p 0 = 48) (fun h6 => h ⟨by rw [h6]; rfl, h5⟩)]; simp
theorem dw_range (s : ByteArray) (k : Nat) : 0 ≤ dw s k ∧ dw s k < 256 := by
  unfold dw
  simp only [IntKind.wrap, IntKind.bits, IntKind.signed]
  simp
  omega

theorem idx_digs {p : ByteArray} (h : indexB p = true) : digs p = true ∧ p.size ≤ 4 := by
  have h1 := (idx_ref p).1 h
  have h2 := h1.1
  unfold dgB at h2
  simp only [Bool.and_eq_true] at h2
  exact ⟨h2.2, by omega⟩
def sideB (n : Int) : Bool := decide (1 ≤ n) && decide (n ≤ 64)
theorem side_mul {w h : Int} (h1 : sideB w = true) (h2 : sideB h = true) : 0 ≤ w * h ∧ w * h ≤ 4096 := by
  unfold sideB at h1 h2
  simp at h1 h2
  exact ⟨Int.mul_nonneg (by omega) (by omega), Int.le_trans (Int.mul_le_mul h1.2 h2.2 (by omega) (by omega)) (by decide)⟩
def encImg (w h : Int) (lv : List Int) : DD := .agg [i64 w, i64 h, .sl 1 8 lv.length (fun i _ => i64 (lv.getD i 0))]
def lvOk (n : Int) : Bool := decide (0 ≤ n) && decide (n ≤ 15)
/-- What is wrong with an image. -/
def imgF (w h : Int) (lv : List Int) : Int := if sideB w = true ∧ sideB h = true then (if (lv.length : Int) = w * h then (if allN lv.length (fun i => lvOk (lv.getD i 0)) = true then 0 else 2) else 1) else 2
theorem unsigned_id {s : ByteArray} (h : dgB s = true) : (Lib.trimPrefix s.data.toList (⟨#[45]⟩ : ByteArray).data.toList).toArray = s.data := by
  unfold dgB digs at h
  simp only [Bool.and_eq_true, decide_eq_true_eq, allN_iff] at h
  have hp := str_pos h.1
  have h0 := h.2 0 hp
  cases s with | mk d =>
  cases d with | mk l =>
  match l, h0, hp with
  | [], _, hp => exact absurd hp (by decide)
  | b :: t, h0, _ =>
    have h1 : digitB b = true := h0
    have h2 : ¬ b = 45 := fun e => by subst e; exact absurd h1 (by decide)
    show (Lib.trimPrefix (b :: t) [45]).toArray = (b :: t).toArray
    unfold Lib.trimPrefix
    have h3 : ((45 : UInt8) == b) = false := by simp; exact fun e => h2 e.symm
    have h4 : Lib.hasPrefix (b :: t) [45] = false := by simp [Lib.hasPrefix, List.isPrefixOf, h3]
    rw [h4]
    rfl
section
variable (E : Env)
set_option maxRecDepth 100000
theorem a_isSide_sp (n : Int) : Sp (cx Tryz.prog mixed tyT_ok E) 169 [i64 n] (dB (sideB n)) := by
  refine Sp.body Tryz.func169 (by kernel_rfl) rfl (by kernel_rfl) (by kernel_rfl) (by kernel_rfl) ?_
  repeat' first
    | (refine facW_intro ?_; intro _)
    | refine Or.inl ?_
    | ((conv => whnf); first | (refine condW_dec ?_ ?_ <;> intro _ <;> try (exfalso; omega)) | refine condW_not ?_ | (refine condW_bool ?_ ?_ <;> intro _ <;> try (exfalso; omega)) | (refine nbC_t (fun _ => ?_) ?_) | (refine nbC_f ?_ (fun _ => ?_)))
    | refine And.intro (by first | omega | (simp only [Int.toNat_natCast] at *; omega) | (simp only [Nat.reduceAdd, Int.cast_ofNat_Int, true_and, and_true]; omega) | kernel_rfl) ?_
    | refine RegW.run ?_
    | fail
  all_goals exact Dle.bo (by unfold sideB; grind)
theorem r_isSide_sp (n : Int) : Sp (cx Tryz.prog mixed tyT_ok E) 180 [i64 n] (dB (sideB n)) := by
  refine Sp.body Tryz.func180 (by kernel_rfl) rfl (by kernel_rfl) (by kernel_rfl) (by kernel_rfl) ?_
  repeat' first
    | (refine facW_intro ?_; intro _)
    | refine Or.inl ?_
    | ((conv => whnf); first | (refine condW_dec ?_ ?_ <;> intro _ <;> try (exfalso; omega)) | refine condW_not ?_ | (refine condW_bool ?_ ?_ <;> intro _ <;> try (exfalso; omega)) | (refine nbC_t (fun _ => ?_) ?_) | (refine nbC_f ?_ (fun _ => ?_)))
    | refine And.intro (by first | omega | (simp only [Int.toNat_natCast] at *; omega) | (simp only [Nat.reduceAdd, Int.cast_ofNat_Int, true_and, and_true]; omega) | kernel_rfl) ?_
    | refine RegW.run ?_
    | fail
  all_goals exact Dle.bo (by unfold sideB; grind)
theorem a_isDigit_sp (c : UInt8) : Sp (cx Tryz.prog mixed tyT_ok E) 167 [.v (.int .u8 (c.toNat : Int))] (dB (digitB c)) := by
  refine Sp.body Tryz.func167 (by kernel_rfl) rfl (by kernel_rfl) (by kernel_rfl) (by kernel_rfl) ?_
  repeat' first
    | (refine facW_intro ?_; intro _)
    | refine Or.inl ?_
    | ((conv => whnf); first | (refine condW_dec ?_ ?_ <;> intro _ <;> try (exfalso; omega)) | refine condW_not ?_ | (refine condW_bool ?_ ?_ <;> intro _ <;> try (exfalso; omega)) | (refine nbC_t (fun _ => ?_) ?_) | (refine nbC_f ?_ (fun _ => ?_)))
    | refine And.intro (by first | omega | (simp only [Int.toNat_natCast] at *; omega) | (simp only [Nat.reduceAdd, Int.cast_ofNat_Int, true_and, and_true]; omega) | kernel_rfl) ?_
    | refine RegW.run ?_
    | fail
  all_goals exact Dle.bo (by unfold digitB; grind)
theorem check_img_sp (w h : Int) (lv : List Int) (hl : lv.length ≤ 1000000000) : Sp (cx Tryz.prog mixed tyT_ok E) 64 [encImg w h lv] (i64 (imgF w h lv)) := by
  have h1 := a_isSide_sp E w
  have h2 := a_isSide_sp E h
  have h3 := @side_mul w h
  obtain ⟨r, hr⟩ : ∃ r, r = imgF w h lv := ⟨_, rfl⟩
  rw [← hr]
  unfold imgF at hr
  cases hw : sideB w <;> cases hh : sideB h <;> rw [hw] at h1 h3 hr <;> rw [hh] at h2 h3 hr
  · rw [if_neg (by decide)] at hr
    subst hr
    refine Sp.body Tryz.func64 (by kernel_rfl) rfl (by kernel_rfl) (by kernel_rfl) (by kernel_rfl) ?_
    repeat' first
      | (refine facW_intro ?_; intro _)
      | refine Or.inl ?_
      | ((conv => whnf); first | (refine condW_dec ?_ ?_ <;> intro _ <;> try (exfalso; omega)) | refine condW_not ?_ | (refine condW_bool ?_ ?_ <;> intro _ <;> try (exfalso; omega)) | (refine nbC_t (fun _ => ?_) ?_) | (refine nbC_f ?_ (fun _ => ?_)))
      | refine And.intro (by first | omega | (simp only [Int.toNat_natCast] at *; omega) | (simp only [Nat.reduceAdd, Int.cast_ofNat_Int, true_and, and_true]; omega) | kernel_rfl) ?_
      | refine RegW.run ?_
      | refine ⟨_, h1, ?_⟩
      | refine ⟨_, h2, ?_⟩
      | fail
    all_goals first
      | (exfalso; rename_i h; exact h rfl)
      | exact Dle.refl _ _
      | trace_state
  · rw [if_neg (by decide)] at hr
    subst hr
    refine Sp.body Tryz.func64 (by kernel_rfl) rfl (by kernel_rfl) (by kernel_rfl) (by kernel_rfl) ?_
    repeat' first
      | (refine facW_intro ?_; intro _)
      | refine Or.inl ?_
      | ((conv => whnf); first | (refine condW_dec ?_ ?_ <;> intro _ <;> try (exfalso; omega)) | refine condW_not ?_ | (refine condW_bool ?_ ?_ <;> intro _ <;> try (exfalso; omega)) | (refine nbC_t (fun _ => ?_) ?_) | (refine nbC_f ?_ (fun _ => ?_)))
      | refine And.intro (by first | omega | (simp only [Int.toNat_natCast] at *; omega) | (simp only [Nat.reduceAdd, Int.cast_ofNat_Int, true_and, and_true]; omega) | kernel_rfl) ?_
      | refine RegW.run ?_
      | refine ⟨_, h1, ?_⟩
      | refine ⟨_, h2, ?_⟩
      | fail
    all_goals first
      | (exfalso; rename_i h; exact h rfl)
      | exact Dle.refl _ _
      | trace_state
  · rw [if_neg (by decide)] at hr
    subst hr
    refine Sp.body Tryz.func64 (by kernel_rfl) rfl (by kernel_rfl) (by kernel_rfl) (by kernel_rfl) ?_
    repeat' first
      | (refine facW_intro ?_; intro _)
      | refine Or.inl ?_
      | ((conv => whnf); first | (refine condW_dec ?_ ?_ <;> intro _ <;> try (exfalso; omega)) | refine condW_not ?_ | (refine condW_bool ?_ ?_ <;> intro _ <;> try (exfalso; omega)) | (refine nbC_t (fun _ => ?_) ?_) | (refine nbC_f ?_ (fun _ => ?_)))
      | refine And.intro (by first | omega | (simp only [Int.toNat_natCast] at *; omega) | (simp only [Nat.reduceAdd, Int.cast_ofNat_Int, true_and, and_true]; omega) | kernel_rfl) ?_
      | refine RegW.run ?_
      | refine ⟨_, h1, ?_⟩
      | refine ⟨_, h2, ?_⟩
      | fail
    all_goals first
      | (exfalso; rename_i h; exact h rfl)
      | exact Dle.refl _ _
      | trace_state
  · rw [if_pos (by decide)] at hr
    have h3 := h3 rfl rfl
    refine Sp.body Tryz.func64 (by kernel_rfl) rfl (by kernel_rfl) (by kernel_rfl) (by kernel_rfl) ?_
    repeat' first
      | (refine facW_intro ?_; intro _)
      | refine Or.inl ?_
      | ((conv => whnf); first | (refine condW_dec ?_ ?_ <;> intro _ <;> try (exfalso; omega)) | refine condW_not ?_ | (refine condW_bool ?_ ?_ <;> intro _ <;> try (exfalso; omega)) | (refine nbC_t (fun _ => ?_) ?_) | (refine nbC_f ?_ (fun _ => ?_)))
      | refine And.intro (by first | omega | (simp only [Int.toNat_natCast] at *; omega) | (simp only [Nat.reduceAdd, Int.cast_ofNat_Int, true_and, and_true]; omega) | kernel_rfl) ?_
      | refine RegW.run ?_
      | refine ⟨_, h1, ?_⟩
      | refine ⟨_, h2, ?_⟩
      | fail
    all_goals try (exfalso; rename_i h; exact h rfl)
    · have hlen : (lv.length : Int) = w * h := by assumption
      rw [if_pos hlen] at hr
      refine ⟨Nat, fun k => [(27, i64 k)], fun k => [], [1], fun k => [], fun k => k ≤ lv.length ∧ allN k (fun i => lvOk (lv.getD i 0)) = true, fun k => lv.length - k, ⟨0, ⟨by omega, rfl⟩, ⟨[], ⟨by kernel_rfl, by kernel_rfl, by kernel_rfl, by kernel_rfl, by kernel_rfl, by kernel_rfl, by kernel_rfl⟩, (by repeat' first | exact trivial | exact rfl | kernel_rfl | exact Dle.of_eq rfl | exact MLe.of_eq rfl | exact Dle.i (by omega) | exact Dle.i (by simp only [Int.toNat_natCast] at *; omega) | exact Dle.nil | exact Dle.rc Dle.nil | exact Option.some_ne_none _ | exact Or.inl rfl | exact Or.inr trivial | omega | (simp only [Int.toNat_natCast] at *; omega) | (intro _ _ _ _; exact Dle.of_eq rfl) | refine And.intro ?_ ?_)⟩⟩, fun k hk => ?_⟩
      obtain ⟨hk, hall⟩ := hk
      have hno : k < lv.length → lvOk (lv.getD k 0) = false → r = 2 := fun h1 h2 => by rw [hr, if_neg (by rw [allN_no h1 h2]; decide)]
      have hyes : lvOk (lv.getD k 0) = true ↔ 0 ≤ lv.getD k 0 ∧ lv.getD k 0 ≤ 15 := by unfold lvOk; simp
      repeat' first
        | (refine facW_intro ?_; intro _)
        | refine Or.inl ?_
        | ((conv => whnf); first | (refine condW_dec ?_ ?_ <;> intro _ <;> try (exfalso; omega)) | refine condW_not ?_ | (refine condW_bool ?_ ?_ <;> intro _ <;> try (exfalso; omega)) | (refine nbC_t (fun _ => ?_) ?_) | (refine nbC_f ?_ (fun _ => ?_)))
        | refine And.intro (by first | omega | (simp only [Int.toNat_natCast] at *; omega) | (simp only [Nat.reduceAdd, Int.cast_ofNat_Int, true_and, and_true]; omega) | kernel_rfl) ?_
        | refine RegW.run ?_
        | fail
      all_goals simp only [Int.toNat_natCast] at *
      all_goals first
        | exact Dle.i (by rw [hno (by omega) (by rw [Bool.eq_false_iff]; intro h; have := hyes.1 h; omega)])
        | exact ⟨k + 1, ⟨by omega, allN_succ hall (hyes.2 ⟨by omega, by omega⟩)⟩, ⟨[], ⟨by kernel_rfl, by kernel_rfl, by kernel_rfl, by kernel_rfl, by kernel_rfl, by kernel_rfl, by kernel_rfl⟩, (by repeat' first | exact trivial | exact rfl | kernel_rfl | exact Dle.of_eq rfl | exact MLe.of_eq rfl | exact Dle.i (by omega) | exact Dle.i (by simp only [Int.toNat_natCast] at *; omega) | exact Dle.nil | exact Dle.rc Dle.nil | exact Option.some_ne_none _ | exact Or.inl rfl | exact Or.inr trivial | omega | (simp only [Int.toNat_natCast] at *; omega) | (intro _ _ _ _; exact Dle.of_eq rfl) | refine And.intro ?_ ?_)⟩, by first | omega | (dsimp only; omega)⟩
        | (have hk2 : k = lv.length := by omega
           rw [hk2] at hall
           rw [if_pos hall] at hr
           exact Dle.i (by rw [hr]))
        | fail
    · have hlen : ¬ (lv.length : Int) = w * h := by assumption
      rw [if_neg hlen] at hr
      subst hr
      exact Dle.refl _ _
theorem ref_img_sp (w h : Int) (lv : List Int) (hl : lv.length ≤ 1000000000) : Sp (cx Tryz.prog mixed tyT_ok E) 70 [encImg w h lv] (i64 (imgF w h lv)) := by
  have h1 := r_isSide_sp E w
  have h2 := r_isSide_sp E h
  have h3 := @side_mul w h
  obtain ⟨r, hr⟩ : ∃ r, r = imgF w h lv := ⟨_, rfl⟩
  rw [← hr]
  unfold imgF at hr
  cases hw : sideB w <;> cases hh : sideB h <;> rw [hw] at h1 h3 hr <;> rw [hh] at h2 h3 hr
  · rw [if_neg (by decide)] at hr
    subst hr
    refine Sp.body Tryz.func70 (by kernel_rfl) rfl (by kernel_rfl) (by kernel_rfl) (by kernel_rfl) ?_
    repeat' first
      | (refine facW_intro ?_; intro _)
      | refine Or.inl ?_
      | ((conv => whnf); first | (refine condW_dec ?_ ?_ <;> intro _ <;> try (exfalso; omega)) | refine condW_not ?_ | (refine condW_bool ?_ ?_ <;> intro _ <;> try (exfalso; omega)) | (refine nbC_t (fun _ => ?_) ?_) | (refine nbC_f ?_ (fun _ => ?_)))
      | refine And.intro (by first | omega | (simp only [Int.toNat_natCast] at *; omega) | (simp only [Nat.reduceAdd, Int.cast_ofNat_Int, true_and, and_true]; omega) | kernel_rfl) ?_
      | refine RegW.run ?_
      | refine ⟨_, h1, ?_⟩
      | refine ⟨_, h2, ?_⟩
      | fail
    all_goals first
      | (exfalso; rename_i h; exact h rfl)
      | exact Dle.refl _ _
      | trace_state
  · rw [if_neg (by decide)] at hr
    subst hr
    refine Sp.body Tryz.func70 (by kernel_rfl) rfl (by kernel_rfl) (by kernel_rfl) (by kernel_rfl) ?_
    repeat' first
      | (refine facW_intro ?_; intro _)
      | refine Or.inl ?_
      | ((conv => whnf); first | (refine condW_dec ?_ ?_ <;> intro _ <;> try (exfalso; omega)) | refine condW_not ?_ | (refine condW_bool ?_ ?_ <;> intro _ <;> try (exfalso; omega)) | (refine nbC_t (fun _ => ?_) ?_) | (refine nbC_f ?_ (fun _ => ?_)))
      | refine And.intro (by first | omega | (simp only [Int.toNat_natCast] at *; omega) | (simp only [Nat.reduceAdd, Int.cast_ofNat_Int, true_and, and_true]; omega) | kernel_rfl) ?_
      | refine RegW.run ?_
      | refine ⟨_, h1, ?_⟩
      | refine ⟨_, h2, ?_⟩
      | fail
    all_goals first
      | (exfalso; rename_i h; exact h rfl)
      | exact Dle.refl _ _
      | trace_state
  · rw [if_neg (by decide)] at hr
    subst hr
    refine Sp.body Tryz.func70 (by kernel_rfl) rfl (by kernel_rfl) (by kernel_rfl) (by kernel_rfl) ?_
    repeat' first
      | (refine facW_intro ?_; intro _)
      | refine Or.inl ?_
      | ((conv => whnf); first | (refine condW_dec ?_ ?_ <;> intro _ <;> try (exfalso; omega)) | refine condW_not ?_ | (refine condW_bool ?_ ?_ <;> intro _ <;> try (exfalso; omega)) | (refine nbC_t (fun _ => ?_) ?_) | (refine nbC_f ?_ (fun _ => ?_)))
      | refine And.intro (by first | omega | (simp only [Int.toNat_natCast] at *; omega) | (simp only [Nat.reduceAdd, Int.cast_ofNat_Int, true_and, and_true]; omega) | kernel_rfl) ?_
      | refine RegW.run ?_
      | refine ⟨_, h1, ?_⟩
      | refine ⟨_, h2, ?_⟩
      | fail
    all_goals first
      | (exfalso; rename_i h; exact h rfl)
      | exact Dle.refl _ _
      | trace_state
  · rw [if_pos (by decide)] at hr
    have h3 := h3 rfl rfl
    refine Sp.body Tryz.func70 (by kernel_rfl) rfl (by kernel_rfl) (by kernel_rfl) (by kernel_rfl) ?_
    repeat' first
      | (refine facW_intro ?_; intro _)
      | refine Or.inl ?_
      | ((conv => whnf); first | (refine condW_dec ?_ ?_ <;> intro _ <;> try (exfalso; omega)) | refine condW_not ?_ | (refine condW_bool ?_ ?_ <;> intro _ <;> try (exfalso; omega)) | (refine nbC_t (fun _ => ?_) ?_) | (refine nbC_f ?_ (fun _ => ?_)))
      | refine And.intro (by first | omega | (simp only [Int.toNat_natCast] at *; omega) | (simp only [Nat.reduceAdd, Int.cast_ofNat_Int, true_and, and_true]; omega) | kernel_rfl) ?_
      | refine RegW.run ?_
      | refine ⟨_, h1, ?_⟩
      | refine ⟨_, h2, ?_⟩
      | fail
    all_goals try (exfalso; rename_i h; exact h rfl)
    · have hlen : (lv.length : Int) = w * h := by assumption
      rw [if_pos hlen] at hr
      refine ⟨Nat, fun k => [(27, i64 k)], fun k => [], [1], fun k => [], fun k => k ≤ lv.length ∧ allN k (fun i => lvOk (lv.getD i 0)) = true, fun k => lv.length - k, ⟨0, ⟨by omega, rfl⟩, ⟨[], ⟨by kernel_rfl, by kernel_rfl, by kernel_rfl, by kernel_rfl, by kernel_rfl, by kernel_rfl, by kernel_rfl⟩, (by repeat' first | exact trivial | exact rfl | kernel_rfl | exact Dle.of_eq rfl | exact MLe.of_eq rfl | exact Dle.i (by omega) | exact Dle.i (by simp only [Int.toNat_natCast] at *; omega) | exact Dle.nil | exact Dle.rc Dle.nil | exact Option.some_ne_none _ | exact Or.inl rfl | exact Or.inr trivial | omega | (simp only [Int.toNat_natCast] at *; omega) | (intro _ _ _ _; exact Dle.of_eq rfl) | refine And.intro ?_ ?_)⟩⟩, fun k hk => ?_⟩
      obtain ⟨hk, hall⟩ := hk
      have hno : k < lv.length → lvOk (lv.getD k 0) = false → r = 2 := fun h1 h2 => by rw [hr, if_neg (by rw [allN_no h1 h2]; decide)]
      have hyes : lvOk (lv.getD k 0) = true ↔ 0 ≤ lv.getD k 0 ∧ lv.getD k 0 ≤ 15 := by unfold lvOk; simp
      repeat' first
        | (refine facW_intro ?_; intro _)
        | refine Or.inl ?_
        | ((conv => whnf); first | (refine condW_dec ?_ ?_ <;> intro _ <;> try (exfalso; omega)) | refine condW_not ?_ | (refine condW_bool ?_ ?_ <;> intro _ <;> try (exfalso; omega)) | (refine nbC_t (fun _ => ?_) ?_) | (refine nbC_f ?_ (fun _ => ?_)))
        | refine And.intro (by first | omega | (simp only [Int.toNat_natCast] at *; omega) | (simp only [Nat.reduceAdd, Int.cast_ofNat_Int, true_and, and_true]; omega) | kernel_rfl) ?_
        | refine RegW.run ?_
        | fail
      all_goals simp only [Int.toNat_natCast] at *
      all_goals first
        | exact Dle.i (by rw [hno (by omega) (by rw [Bool.eq_false_iff]; intro h; have := hyes.1 h; omega)])
        | exact ⟨k + 1, ⟨by omega, allN_succ hall (hyes.2 ⟨by omega, by omega⟩)⟩, ⟨[], ⟨by kernel_rfl, by kernel_rfl, by kernel_rfl, by kernel_rfl, by kernel_rfl, by kernel_rfl, by kernel_rfl⟩, (by repeat' first | exact trivial | exact rfl | kernel_rfl | exact Dle.of_eq rfl | exact MLe.of_eq rfl | exact Dle.i (by omega) | exact Dle.i (by simp only [Int.toNat_natCast] at *; omega) | exact Dle.nil | exact Dle.rc Dle.nil | exact Option.some_ne_none _ | exact Or.inl rfl | exact Or.inr trivial | omega | (simp only [Int.toNat_natCast] at *; omega) | (intro _ _ _ _; exact Dle.of_eq rfl) | refine And.intro ?_ ?_)⟩, by first | omega | (dsimp only; omega)⟩
        | (have hk2 : k = lv.length := by omega
           rw [hk2] at hall
           rw [if_pos hall] at hr
           exact Dle.i (by rw [hr]))
        | fail
    · have hlen : ¬ (lv.length : Int) = w * h := by assumption
      rw [if_neg hlen] at hr
      subst hr
      exact Dle.refl _ _
end
end img
end Go.Proofs.YtphmfejengmggaaGreatDoor
