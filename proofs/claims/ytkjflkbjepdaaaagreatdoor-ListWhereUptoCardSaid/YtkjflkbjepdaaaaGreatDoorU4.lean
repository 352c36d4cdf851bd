/-
  list.steps.
-/
import Derived.Test.YtkjflkbjepdaaaaGreatDoorU3
namespace Go.Proofs.YtkjflkbjepdaaaaGreatDoor
open Go.RowKit
set_option linter.unusedVariables false
set_option linter.unusedSimpArgs false
theorem drop_head {α : Type} {l r : List α} {n : Nat} {p d : α} (h : l.drop n = p :: r) : n < l.length ∧ l.getD n d = p ∧ l.drop (n + 1) = r := by
  have hn : n < l.length := by
    rcases Nat.lt_or_ge n l.length with h1 | h1
    · exact h1
    · rw [List.drop_of_length_le h1] at h; cases h
  rw [drop_cons l d n hn] at h
  injection h with h1 h2
  exact ⟨hn, h1, h2⟩
theorem dot_nat {b : UInt8} : b = 46 ↔ b.toNat = 46 := ⟨fun h => by rw [h]; rfl, fun h => UInt8.toNat_inj.1 h⟩
theorem lst_key {p : ByteArray} (h : keyOkB p = true) : lstOf p = ⟨p, 0⟩ := if_pos h
theorem lst_num {p : ByteArray} (h : keyOkB p = false) : lstOf p = ⟨⟨#[]⟩, numN p⟩ := if_neg (by rw [h]; decide)
theorem no_idx1 {p : ByteArray} {k : Nat} (hk : k < p.size) (h : digitB (bAt p k) = false) : indexB p = false := by
  unfold indexB digs
  rw [allN_no hk h]
  simp
theorem no_idx2 {p : ByteArray} (h : 4 < p.size) : indexB p = false := by
  unfold indexB
  rw [decide_eq_false (p := p.size ≤ 4) (by omega)]
  simp
theorem no_idx3 {p : ByteArray} (h : p = ⟨#[]⟩) : indexB p = false := by subst h; unfold indexB; rfl
theorem no_idx4 {p : ByteArray} (h : (bAt p 0).toNat = 48) (h2 : ¬ p = ⟨#[48]⟩) : indexB p = false := by
  have h3 : bAt p 0 = 48 := UInt8.toNat_inj.1 h
  unfold indexB
  rw [decide_eq_true h3, decide_eq_false h2]
  simp
theorem yes_idx {p : ByteArray} (h0 : 0 < p.size) (h4 : p.size ≤ 4) (hd : allN p.size (fun k => digitB (bAt p k)) = true) (h : ¬ ((bAt p 0).toNat = 48 ∧ ¬ p = ⟨#[48]⟩)) : indexB p = true := by
  unfold indexB digs
  rw [hd, decide_eq_true h0, decide_eq_true h4]
  by_cases h5 : p = ⟨#[48]⟩
  · rw [decide_eq_true h5]; simp
  · rw [decide_eq_false (p := bAt p 0 = 48) (fun h6 => h ⟨by rw [h6]; rfl, h5⟩)]; simp
theorem dw_range (s : ByteArray) (k : Nat) : 0 ≤ dw s k ∧ dw s k < 256 := by
  unfold dw
  simp only [IntKind.wrap, IntKind.bits, IntKind.signed]
  simp
  omega
section
variable (E : Env)
set_option maxRecDepth 100000
set_option maxHeartbeats 4000000 in
theorem lSteps_sp (s : ByteArray) (hs : s.size ≤ 1000000000) : Sp (cx Tryz.prog mixed tyT_ok E) 43 [dS s] (.tup [encLs (if routeOk false s = true then (partsR s).map lstOf else []), dB (routeOk false s)]) := by
  have hlen := pcs_len_le s
  refine Sp.body Tryz.func43 (by kernel_rfl) rfl (by kernel_rfl) (by kernel_rfl) (by kernel_rfl) ?_
  repeat' first
    | (refine facW_intro ?_; intro _)
    | refine Or.inl ?_
    | ((conv => whnf); first | (refine condW_dec ?_ ?_ <;> intro _) | refine condW_not ?_ | (refine condW_bool ?_ ?_ <;> intro _) | (refine nbC_t (fun _ => ?_) ?_) | (refine nbC_f ?_ (fun _ => ?_)))
    | refine And.intro (by first | omega | (simp only [Int.toNat_natCast] at *; omega) | (simp only [Nat.reduceAdd, Int.cast_ofNat_Int, true_and, and_true]; omega) | kernel_rfl) ?_
    | refine RegW.run ?_
    | fail
  · rename_i h
    rw [routeOk_long h]
    exact Dle.tup (X := (cx Tryz.prog mixed tyT_ok E)) ⟨Dle.nil, Dle.refl _ _, trivial⟩
  · rename_i h
    rw [(routeOk_nil (stars := false) h).1, (routeOk_nil (stars := false) h).2]
    exact Dle.tup (X := (cx Tryz.prog mixed tyT_ok E)) ⟨Dle.nil, Dle.refl _ _, trivial⟩
  · rename_i ha hb
    rw [(routeOk_all (stars := false) ha hb).1, (routeOk_all (stars := false) ha hb).2]
    have hsc := scan_all s
    generalize pcs s ⟨#[46]⟩ = ps at hsc hlen
    refine ⟨Nat × Nat × Nat, fun k => [(5, i64 k.1), (6, i64 k.2.1), (4, .own 15 2 0 k.2.2)], fun k => [], [], fun k => [(15, 116, k.2.2, fun i j => (lstOf (ps.getD i ⟨#[]⟩)).cell j)], fun k => k.1 ≤ k.2.1 ∧ k.2.1 ≤ s.size + 1 ∧ k.2.2 ≤ ps.length ∧ allN k.2.2 (fun i => partOk false (ps.getD i ⟨#[]⟩)) = true ∧ ps.drop k.2.2 = (if k.2.1 ≤ s.size then scan s k.1 k.2.1 else []), fun k => s.size + 1 - k.2.1, ⟨(0, 0, 0), ⟨Nat.le_refl _, Nat.zero_le _, Nat.zero_le _, rfl, by rw [if_pos (Nat.zero_le _), hsc]; rfl⟩, ⟨[(15, none)], ⟨by kernel_rfl, by kernel_rfl, by kernel_rfl, by kernel_rfl, by kernel_rfl, by kernel_rfl, by kernel_rfl⟩, (by repeat' first | exact trivial | exact rfl | kernel_rfl | exact Dle.of_eq rfl | exact MLe.of_eq rfl | exact Dle.i (by omega) | exact Dle.i (by simp only [Int.toNat_natCast] at *; omega) | exact Dle.nil | exact Dle.rc Dle.nil | exact Option.some_ne_none _ | exact Or.inl rfl | exact Or.inr trivial | omega | (simp only [Int.toNat_natCast] at *; omega) | (intro _ _ _ _; exact Dle.of_eq rfl) | refine And.intro ?_ ?_)⟩⟩, fun k hk => ?_⟩
    obtain ⟨h1, h2, h3, h4, h5⟩ := hk
    by_cases hle : k.2.1 ≤ s.size
    · rw [if_pos hle] at h5
      by_cases hd : k.2.1 < s.size ∧ ¬ (bAt s k.2.1).toNat = 46
      · have hx : ps.drop k.2.2 = (if k.2.1 + 1 ≤ s.size then scan s k.1 (k.2.1 + 1) else []) := by rw [if_pos (by omega), h5, scan_next hd.1 (fun h => hd.2 (dot_nat.1 h))]
        obtain ⟨hd1, hd2⟩ := hd
        have hd2 : ¬ ((bAt s ((k.2.1 : Int)).toNat).toNat : Int) = 46 := fun h => hd2 (by have h : ((bAt s k.2.1).toNat : Int) = 46 := h; omega)
        repeat' first
          | (refine facW_intro ?_; intro _)
          | refine Or.inl ?_
          | ((conv => whnf); first | (refine condW_dec ?_ ?_ <;> intro _ <;> try (exfalso; omega)) | refine condW_not ?_ | (refine condW_bool ?_ ?_ <;> intro _ <;> try (exfalso; omega)) | (refine nbC_t (fun _ => ?_) ?_) | (refine nbC_f ?_ (fun _ => ?_)))
          | refine And.intro (by first | omega | (simp only [Int.toNat_natCast] at *; omega) | (simp only [Nat.reduceAdd, Int.cast_ofNat_Int, true_and, and_true]; omega) | kernel_rfl) ?_
          | refine RegW.run ?_
          | fail
        exact ⟨(k.1, k.2.1 + 1, k.2.2), ⟨by dsimp only; omega, by dsimp only; omega, h3, h4, hx⟩, ⟨[(15, some 15)], ⟨by kernel_rfl, by kernel_rfl, by kernel_rfl, by kernel_rfl, by kernel_rfl, by kernel_rfl, by kernel_rfl⟩, (by repeat' first | exact trivial | exact rfl | kernel_rfl | exact Dle.of_eq rfl | exact MLe.of_eq rfl | exact Dle.i (by omega) | exact Dle.i (by simp only [Int.toNat_natCast] at *; omega) | exact Dle.nil | exact Dle.rc Dle.nil | exact Option.some_ne_none _ | exact Or.inl rfl | exact Or.inr trivial | omega | (simp only [Int.toNat_natCast] at *; omega) | (intro _ _ _ _; exact Dle.of_eq rfl) | refine And.intro ?_ ?_)⟩, by first | omega | (dsimp only; omega)⟩
      · have hd : k.2.1 < s.size → bAt s k.2.1 = 46 := fun h => Classical.byContradiction fun h2 => hd ⟨h, fun h3 => h2 (dot_nat.2 h3)⟩
        have hd' : k.2.1 < s.size → ((bAt s ((k.2.1 : Int)).toNat).toNat : Int) = 46 := fun h => by
          have := dot_nat.1 (hd h)
          show ((bAt s k.2.1).toNat : Int) = 46
          omega
        rw [scan_step hle hd] at h5
        obtain ⟨h6, h7, h8⟩ := drop_head (d := ⟨#[]⟩) h5
        have hp : (s.extract (k.1 : Int).toNat (k.2.1 : Int).toNat).size ≤ s.size := by rw [ByteArray.size_extract]; omega
        have h7 : ps.getD k.2.2 ⟨#[]⟩ = s.extract (k.1 : Int).toNat (k.2.1 : Int).toNat := h7
        repeat' first
          | (refine facW_intro ?_; intro _)
          | refine Or.inl ?_
          | ((conv => whnf); first | (refine condW_dec ?_ ?_ <;> intro _ <;> try (exfalso; omega)) | refine condW_not ?_ | (refine condW_bool ?_ ?_ <;> intro _ <;> try (exfalso; omega)) | (refine nbC_t (fun _ => ?_) ?_) | (refine nbC_f ?_ (fun _ => ?_)))
          | refine And.intro (by first | omega | (simp only [Int.toNat_natCast] at *; omega) | (simp only [Nat.reduceAdd, Int.cast_ofNat_Int, true_and, and_true]; omega) | kernel_rfl) ?_
          | refine RegW.run ?_
          | refine ⟨_, l_isKey_sp E _, ?_⟩
          | fail
        all_goals generalize s.extract (k.1 : Int).toNat (k.2.1 : Int).toNat = p at *
        · rename_i hkey
          have hpk : partOk false (ps.getD k.2.2 ⟨#[]⟩) = true := by rw [h7]; exact key_part hkey
          have hst : lstOf (ps.getD k.2.2 ⟨#[]⟩) = ⟨p, 0⟩ := by rw [h7]; exact lst_key hkey
          exact ⟨(k.2.1 + 1, k.2.1 + 1, k.2.2 + 1), ⟨by dsimp only; omega, by dsimp only; omega, by dsimp only; omega, allN_succ h4 hpk, h8⟩, ⟨[(15, some 43)], ⟨by kernel_rfl, by kernel_rfl, by kernel_rfl, by kernel_rfl, by kernel_rfl, by kernel_rfl, by kernel_rfl⟩, (by repeat' first | exact trivial | exact rfl | kernel_rfl | exact Dle.of_eq rfl | exact MLe.of_eq rfl | exact Dle.i (by omega) | exact Dle.i (by simp only [Int.toNat_natCast] at *; omega) | exact Dle.nil | exact Dle.rc Dle.nil | exact Option.some_ne_none _ | exact Or.inl rfl | exact Or.inr trivial | omega | (simp only [Int.toNat_natCast] at *; omega) | (intro _ _ _ _; exact Dle.of_eq rfl) | (intro i j hi hj; exact row_lst E (fun i => lstOf (ps.getD i ⟨#[]⟩)) k.2.2 i j ⟨p, 0⟩ hst hi hj) | refine And.intro ?_ ?_)⟩, by first | omega | (dsimp only; omega)⟩
        · rename_i hkey
          refine ⟨Nat, fun q => [(9, i64 q), (8, i64 (nv p q))], fun q => [], [15], fun q => [], fun q => q ≤ p.size ∧ q ≤ 4 ∧ allN q (fun i => digitB (bAt p i)) = true, fun q => p.size - q, ⟨0, ⟨Nat.zero_le _, Nat.zero_le _, rfl⟩, ⟨[], ⟨by kernel_rfl, by kernel_rfl, by kernel_rfl, by kernel_rfl, by kernel_rfl, by kernel_rfl, by kernel_rfl⟩, (by repeat' first | exact trivial | exact rfl | kernel_rfl | exact Dle.of_eq rfl | exact MLe.of_eq rfl | exact Dle.i (by omega) | exact Dle.i (by simp only [Int.toNat_natCast] at *; omega) | exact Dle.nil | exact Dle.rc Dle.nil | exact Option.some_ne_none _ | exact Or.inl rfl | exact Or.inr trivial | omega | (simp only [Int.toNat_natCast] at *; omega) | (intro _ _ _ _; exact Dle.of_eq rfl) | refine And.intro ?_ ?_)⟩⟩, fun q hq => ?_⟩
          obtain ⟨g1, g2, g3⟩ := hq
          have v0 : IntKind.u8.wrap (((bAt p ((q : Int)).toNat).toNat : Int) - 48) = dw p q := rfl
          have v1 : nv p (q + 1) = 10 * nv p q + dw p q := rfl
          have v2 := nv_small g3 g2
          have v3 := dw_range p q
          have hno : indexB p = false → ps.all (partOk false) = false := fun h => all_no h6 (by rw [h7]; exact no_part hkey (.inl rfl) h)
          repeat' first
            | (refine facW_intro ?_; intro _)
            | refine Or.inl ?_
            | ((conv => whnf); first | (refine condW_dec ?_ ?_ <;> intro _ <;> try (exfalso; omega)) | refine condW_not ?_ | (refine condW_bool ?_ ?_ <;> intro _ <;> try (exfalso; omega)) | (refine nbC_t (fun _ => ?_) ?_) | (refine nbC_f ?_ (fun _ => ?_)))
            | refine And.intro (by first | omega | (simp only [Int.toNat_natCast] at *; omega) | (simp only [Nat.reduceAdd, Int.cast_ofNat_Int, true_and, and_true]; omega) | kernel_rfl) ?_
            | refine RegW.run ?_
            | refine ⟨_, l_isDigit_sp E _, ?_⟩
            | fail
          all_goals try (have hp0 := str_pos (s := p) (by assumption))
          all_goals
            repeat' first
              | (refine facW_intro ?_; intro _)
              | refine Or.inl ?_
              | ((conv => whnf); first | (refine condW_dec ?_ ?_ <;> intro _ <;> try (exfalso; omega)) | refine condW_not ?_ | (refine condW_bool ?_ ?_ <;> intro _ <;> try (exfalso; omega)) | (refine nbC_t (fun _ => ?_) ?_) | (refine nbC_f ?_ (fun _ => ?_)))
              | refine And.intro (by first | omega | (simp only [Int.toNat_natCast] at *; omega) | (simp only [Nat.reduceAdd, Int.cast_ofNat_Int, true_and, and_true]; omega) | kernel_rfl) ?_
              | refine RegW.run ?_
              | refine ⟨_, l_isDigit_sp E _, ?_⟩
              | fail
          all_goals first
            | (rename_i h9 h10
               exact ⟨q + 1, ⟨by omega, by omega, allN_succ g3 h9⟩, ⟨[], ⟨by kernel_rfl, by kernel_rfl, by kernel_rfl, by kernel_rfl, by kernel_rfl, by kernel_rfl, by kernel_rfl⟩, (by repeat' first | exact trivial | exact rfl | kernel_rfl | exact Dle.of_eq rfl | exact MLe.of_eq rfl | exact Dle.i (by omega) | exact Dle.i (by simp only [Int.toNat_natCast] at *; omega) | exact Dle.nil | exact Dle.rc Dle.nil | exact Option.some_ne_none _ | exact Or.inl rfl | exact Or.inr trivial | omega | (simp only [Int.toNat_natCast] at *; omega) | (intro _ _ _ _; exact Dle.of_eq rfl) | refine And.intro ?_ ?_)⟩, by first | omega | (dsimp only; omega)⟩)
            | (rw [hno (by first | exact no_idx3 (by assumption) | (exact no_idx1 (k := q) (by omega) (by assumption)) | exact no_idx2 (by omega) | exact no_idx4 (by simp only [Int.toNat_zero] at *; omega) (by assumption))]
               exact Dle.tup (X := (cx Tryz.prog mixed tyT_ok E)) ⟨Dle.nil, Dle.refl _ _, trivial⟩)
            | (have hq : q = p.size := by omega
               subst hq
               have hix : indexB p = true := yes_idx hp0 g2 g3 (by first | (rintro ⟨-, h2⟩; exact h2 (by assumption)) | (rintro ⟨h2, -⟩; simp only [Int.toNat_zero] at *; omega))
               have hpk : partOk false (ps.getD k.2.2 ⟨#[]⟩) = true := by rw [h7]; exact yes_part hix
               have hst : lstOf (ps.getD k.2.2 ⟨#[]⟩) = ⟨⟨#[]⟩, nv p p.size⟩ := by rw [h7, lst_num hkey, nv_num (idx_digs hix).1 (idx_digs hix).2]
               exact ⟨(k.2.1 + 1, k.2.1 + 1, k.2.2 + 1), ⟨by dsimp only; omega, by dsimp only; omega, by dsimp only; omega, allN_succ h4 hpk, h8⟩, ⟨[(15, some 82)], ⟨by kernel_rfl, by kernel_rfl, by kernel_rfl, by kernel_rfl, by kernel_rfl, by kernel_rfl, by kernel_rfl⟩, (by repeat' first | exact trivial | exact rfl | kernel_rfl | exact Dle.of_eq rfl | exact MLe.of_eq rfl | exact Dle.i (by omega) | exact Dle.i (by simp only [Int.toNat_natCast] at *; omega) | exact Dle.nil | exact Dle.rc Dle.nil | exact Option.some_ne_none _ | exact Or.inl rfl | exact Or.inr trivial | omega | (simp only [Int.toNat_natCast] at *; omega) | (intro _ _ _ _; exact Dle.of_eq rfl) | (intro i j hi hj; exact row_lst E (fun i => lstOf (ps.getD i ⟨#[]⟩)) k.2.2 i j ⟨⟨#[]⟩, nv p p.size⟩ hst hi hj) | refine And.intro ?_ ?_)⟩, by first | omega | (dsimp only; omega)⟩)
            | exfalso
          all_goals trace_state
        · rename_i hkey
          have hpk : partOk false (ps.getD k.2.2 ⟨#[]⟩) = true := by rw [h7]; exact key_part hkey
          have hst : lstOf (ps.getD k.2.2 ⟨#[]⟩) = ⟨p, 0⟩ := by rw [h7]; exact lst_key hkey
          exact ⟨(k.2.1 + 1, k.2.1 + 1, k.2.2 + 1), ⟨by dsimp only; omega, by dsimp only; omega, by dsimp only; omega, allN_succ h4 hpk, h8⟩, ⟨[(15, some 43)], ⟨by kernel_rfl, by kernel_rfl, by kernel_rfl, by kernel_rfl, by kernel_rfl, by kernel_rfl, by kernel_rfl⟩, (by repeat' first | exact trivial | exact rfl | kernel_rfl | exact Dle.of_eq rfl | exact MLe.of_eq rfl | exact Dle.i (by omega) | exact Dle.i (by simp only [Int.toNat_natCast] at *; omega) | exact Dle.nil | exact Dle.rc Dle.nil | exact Option.some_ne_none _ | exact Or.inl rfl | exact Or.inr trivial | omega | (simp only [Int.toNat_natCast] at *; omega) | (intro _ _ _ _; exact Dle.of_eq rfl) | (intro i j hi hj; exact row_lst E (fun i => lstOf (ps.getD i ⟨#[]⟩)) k.2.2 i j ⟨p, 0⟩ hst hi hj) | refine And.intro ?_ ?_)⟩, by first | omega | (dsimp only; omega)⟩
        · rename_i hkey
          refine ⟨Nat, fun q => [(9, i64 q), (8, i64 (nv p q))], fun q => [], [15], fun q => [], fun q => q ≤ p.size ∧ q ≤ 4 ∧ allN q (fun i => digitB (bAt p i)) = true, fun q => p.size - q, ⟨0, ⟨Nat.zero_le _, Nat.zero_le _, rfl⟩, ⟨[], ⟨by kernel_rfl, by kernel_rfl, by kernel_rfl, by kernel_rfl, by kernel_rfl, by kernel_rfl, by kernel_rfl⟩, (by repeat' first | exact trivial | exact rfl | kernel_rfl | exact Dle.of_eq rfl | exact MLe.of_eq rfl | exact Dle.i (by omega) | exact Dle.i (by simp only [Int.toNat_natCast] at *; omega) | exact Dle.nil | exact Dle.rc Dle.nil | exact Option.some_ne_none _ | exact Or.inl rfl | exact Or.inr trivial | omega | (simp only [Int.toNat_natCast] at *; omega) | (intro _ _ _ _; exact Dle.of_eq rfl) | refine And.intro ?_ ?_)⟩⟩, fun q hq => ?_⟩
          obtain ⟨g1, g2, g3⟩ := hq
          have v0 : IntKind.u8.wrap (((bAt p ((q : Int)).toNat).toNat : Int) - 48) = dw p q := rfl
          have v1 : nv p (q + 1) = 10 * nv p q + dw p q := rfl
          have v2 := nv_small g3 g2
          have v3 := dw_range p q
          have hno : indexB p = false → ps.all (partOk false) = false := fun h => all_no h6 (by rw [h7]; exact no_part hkey (.inl rfl) h)
          repeat' first
            | (refine facW_intro ?_; intro _)
            | refine Or.inl ?_
            | ((conv => whnf); first | (refine condW_dec ?_ ?_ <;> intro _ <;> try (exfalso; omega)) | refine condW_not ?_ | (refine condW_bool ?_ ?_ <;> intro _ <;> try (exfalso; omega)) | (refine nbC_t (fun _ => ?_) ?_) | (refine nbC_f ?_ (fun _ => ?_)))
            | refine And.intro (by first | omega | (simp only [Int.toNat_natCast] at *; omega) | (simp only [Nat.reduceAdd, Int.cast_ofNat_Int, true_and, and_true]; omega) | kernel_rfl) ?_
            | refine RegW.run ?_
            | refine ⟨_, l_isDigit_sp E _, ?_⟩
            | fail
          all_goals try (have hp0 := str_pos (s := p) (by assumption))
          all_goals
            repeat' first
              | (refine facW_intro ?_; intro _)
              | refine Or.inl ?_
              | ((conv => whnf); first | (refine condW_dec ?_ ?_ <;> intro _ <;> try (exfalso; omega)) | refine condW_not ?_ | (refine condW_bool ?_ ?_ <;> intro _ <;> try (exfalso; omega)) | (refine nbC_t (fun _ => ?_) ?_) | (refine nbC_f ?_ (fun _ => ?_)))
              | refine And.intro (by first | omega | (simp only [Int.toNat_natCast] at *; omega) | (simp only [Nat.reduceAdd, Int.cast_ofNat_Int, true_and, and_true]; omega) | kernel_rfl) ?_
              | refine RegW.run ?_
              | refine ⟨_, l_isDigit_sp E _, ?_⟩
              | fail
          all_goals first
            | (rename_i h9 h10
               exact ⟨q + 1, ⟨by omega, by omega, allN_succ g3 h9⟩, ⟨[], ⟨by kernel_rfl, by kernel_rfl, by kernel_rfl, by kernel_rfl, by kernel_rfl, by kernel_rfl, by kernel_rfl⟩, (by repeat' first | exact trivial | exact rfl | kernel_rfl | exact Dle.of_eq rfl | exact MLe.of_eq rfl | exact Dle.i (by omega) | exact Dle.i (by simp only [Int.toNat_natCast] at *; omega) | exact Dle.nil | exact Dle.rc Dle.nil | exact Option.some_ne_none _ | exact Or.inl rfl | exact Or.inr trivial | omega | (simp only [Int.toNat_natCast] at *; omega) | (intro _ _ _ _; exact Dle.of_eq rfl) | refine And.intro ?_ ?_)⟩, by first | omega | (dsimp only; omega)⟩)
            | (rw [hno (by first | exact no_idx3 (by assumption) | (exact no_idx1 (k := q) (by omega) (by assumption)) | exact no_idx2 (by omega) | exact no_idx4 (by simp only [Int.toNat_zero] at *; omega) (by assumption))]
               exact Dle.tup (X := (cx Tryz.prog mixed tyT_ok E)) ⟨Dle.nil, Dle.refl _ _, trivial⟩)
            | (have hq : q = p.size := by omega
               subst hq
               have hix : indexB p = true := yes_idx hp0 g2 g3 (by first | (rintro ⟨-, h2⟩; exact h2 (by assumption)) | (rintro ⟨h2, -⟩; simp only [Int.toNat_zero] at *; omega))
               have hpk : partOk false (ps.getD k.2.2 ⟨#[]⟩) = true := by rw [h7]; exact yes_part hix
               have hst : lstOf (ps.getD k.2.2 ⟨#[]⟩) = ⟨⟨#[]⟩, nv p p.size⟩ := by rw [h7, lst_num hkey, nv_num (idx_digs hix).1 (idx_digs hix).2]
               exact ⟨(k.2.1 + 1, k.2.1 + 1, k.2.2 + 1), ⟨by dsimp only; omega, by dsimp only; omega, by dsimp only; omega, allN_succ h4 hpk, h8⟩, ⟨[(15, some 82)], ⟨by kernel_rfl, by kernel_rfl, by kernel_rfl, by kernel_rfl, by kernel_rfl, by kernel_rfl, by kernel_rfl⟩, (by repeat' first | exact trivial | exact rfl | kernel_rfl | exact Dle.of_eq rfl | exact MLe.of_eq rfl | exact Dle.i (by omega) | exact Dle.i (by simp only [Int.toNat_natCast] at *; omega) | exact Dle.nil | exact Dle.rc Dle.nil | exact Option.some_ne_none _ | exact Or.inl rfl | exact Or.inr trivial | omega | (simp only [Int.toNat_natCast] at *; omega) | (intro _ _ _ _; exact Dle.of_eq rfl) | (intro i j hi hj; exact row_lst E (fun i => lstOf (ps.getD i ⟨#[]⟩)) k.2.2 i j ⟨⟨#[]⟩, nv p p.size⟩ hst hi hj) | refine And.intro ?_ ?_)⟩, by first | omega | (dsimp only; omega)⟩)
            | exfalso
          all_goals trace_state
    · have h9 : ps.drop k.2.2 = [] := by rw [h5, if_neg hle]
      have h9 : ps.length ≤ k.2.2 := List.drop_eq_nil_iff.1 h9
      rw [all_end h4 h9]
      repeat' first
        | (refine facW_intro ?_; intro _)
        | refine Or.inl ?_
        | ((conv => whnf); first | (refine condW_dec ?_ ?_ <;> intro _ <;> try (exfalso; omega)) | refine condW_not ?_ | (refine condW_bool ?_ ?_ <;> intro _ <;> try (exfalso; omega)) | (refine nbC_t (fun _ => ?_) ?_) | (refine nbC_f ?_ (fun _ => ?_)))
        | refine And.intro (by first | omega | (simp only [Int.toNat_natCast] at *; omega) | (simp only [Nat.reduceAdd, Int.cast_ofNat_Int, true_and, and_true]; omega) | kernel_rfl) ?_
        | refine RegW.run ?_
        | fail
      exact Dle.tup (X := (cx Tryz.prog mixed tyT_ok E)) ⟨Dle.sl (X := (cx Tryz.prog mixed tyT_ok E)) (by simp; omega) (fun i j hi hj => Dle.of_eq (by simp [List.getD, show i < ps.length by omega])), Dle.refl _ _, trivial⟩
end
end Go.Proofs.YtkjflkbjepdaaaaGreatDoor
