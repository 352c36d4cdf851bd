/-
  list.steps. list.at, had, listFault, routed; the reference's HasAt, ListFault, RouteFault.
-/
import Derived.Test.YthoemnhigboahaaGreatDoorU3
namespace Go.Proofs.YthoemnhigboahaaGreatDoor
open Go.RowKit
set_option linter.unusedVariables false
set_option linter.unusedSimpArgs false
theorem drop_head {α : Type} {l r : List α} {n : Nat} {p d : α} (h : l.drop n = p :: r) : n < l.length ∧ l.getD n d = p ∧ l.drop (n + 1) = r := by
  have hn : n < l.length := by
    rcases Nat.lt_or_ge n l.length with h1 | h1
    · exact h1
    · rw [List.drop_of_length_le h1] at h; cases h
  rw [drop_cons l d n hn] at h
  injection h with h1 h2
  exact ⟨hn, h1, h2⟩
theorem dot_nat {b : UInt8} : b = 46 ↔ b.toNat = 46 := ⟨fun h => by rw [h]; rfl, fun h => UInt8.toNat_inj.1 h⟩
theorem lst_key {p : ByteArray} (h : keyOkB p = true) : lstOf p = ⟨p, 0⟩ := if_pos h
theorem lst_num {p : ByteArray} (h : keyOkB p = false) : lstOf p = ⟨⟨#[]⟩, numN p⟩ := if_neg (by rw [h]; decide)
theorem no_idx1 {p : ByteArray} {k : Nat} (hk : k < p.size) (h : digitB (bAt p k) = false) : indexB p = false := by
  unfold indexB digs
  rw [allN_no hk h]
  simp
theorem no_idx2 {p : ByteArray} (h : 4 < p.size) : indexB p = false := by
  unfold indexB
  rw [decide_eq_false (p := p.size ≤ 4) (by omega)]
  simp
theorem no_idx3 {p : ByteArray} (h : p = ⟨#[]⟩) : indexB p = false := by subst h; unfold indexB; rfl
theorem no_idx4 {p : ByteArray} (h : (bAt p 0).toNat = 48) (h2 : ¬ p = ⟨#[48]⟩) : indexB p = false := by
  have h3 : bAt p 0 = 48 := UInt8.toNat_inj.1 h
  unfold indexB
  rw [decide_eq_true h3, decide_eq_false h2]
  simp
theorem yes_idx {p : ByteArray} (h0 : 0 < p.size) (h4 : p.size ≤ 4) (hd : allN p.size (fun k => digitB (bAt p k)) = true) (h : ¬ ((bAt p 0).toNat = 48 ∧ ¬ p = ⟨#[48]⟩)) : indexB p = true := by
  unfold indexB digs
  rw [hd, decide_eq_true h0, decide_eq_true h4]
  by_cases h5 : p = ⟨#[48]⟩
  · rw [decide_eq_true h5]; simp
  · rw [decide_eq_false (p := bAt p 0 = 48) (fun h6 => h ⟨by rw [h6]; rfl, h5⟩)]; simp
theorem dw_range (s : ByteArray) (k : Nat) : 0 ≤ dw s k ∧ dw s k < 256 := by
  unfold dw
  simp only [IntKind.wrap, IntKind.bits, IntKind.signed]
  simp
  omega
section
variable (E : Env)
set_option maxRecDepth 100000
set_option maxHeartbeats 4000000 in
theorem lSteps_sp (s : ByteArray) (hs : s.size ≤ 1000000000) : Sp (cx Tryz.prog mixed tyT_ok E) 43 [dS s] (.tup [encLs (if routeOk false s = true then (partsR s).map lstOf else []), dB (routeOk false s)]) := by
  have hlen := pcs_len_le s
  refine Sp.body Tryz.func43 (by kernel_rfl) rfl (by kernel_rfl) (by kernel_rfl) (by kernel_rfl) ?_
  repeat' first
    | (refine facW_intro ?_; intro _)
    | refine Or.inl ?_
    | ((conv => whnf); first | (refine condW_dec ?_ ?_ <;> intro _) | refine condW_not ?_ | (refine condW_bool ?_ ?_ <;> intro _) | (refine nbC_t (fun _ => ?_) ?_) | (refine nbC_f ?_ (fun _ => ?_)))
    | refine And.intro (by first | omega | (simp only [Int.toNat_natCast] at *; omega) | (simp only [Nat.reduceAdd, Int.cast_ofNat_Int, true_and, and_true]; omega)  | kernel_rfl) ?_
    | refine RegW.run ?_
    | fail
  · rename_i h
    rw [routeOk_long h]
    exact Dle.tup (X := (cx Tryz.prog mixed tyT_ok E)) ⟨Dle.nil, Dle.refl _ _, trivial⟩
  · rename_i h
    rw [(routeOk_nil (stars := false) h).1, (routeOk_nil (stars := false) h).2]
    exact Dle.tup (X := (cx Tryz.prog mixed tyT_ok E)) ⟨Dle.nil, Dle.refl _ _, trivial⟩
  · rename_i ha hb
    rw [(routeOk_all (stars := false) ha hb).1, (routeOk_all (stars := false) ha hb).2]
    have hsc := scan_all s
    generalize pcs s ⟨#[46]⟩ = ps at hsc hlen
    refine ⟨Nat × Nat × Nat, fun k => [(5, i64 k.1), (6, i64 k.2.1), (4, .own 15 2 0 k.2.2)], fun k => [], [], fun k => [(15, 209, k.2.2, fun i j => (lstOf (ps.getD i ⟨#[]⟩)).cell j)], fun k => k.1 ≤ k.2.1 ∧ k.2.1 ≤ s.size + 1 ∧ k.2.2 ≤ ps.length ∧ allN k.2.2 (fun i => partOk false (ps.getD i ⟨#[]⟩)) = true ∧ ps.drop k.2.2 = (if k.2.1 ≤ s.size then scan s k.1 k.2.1 else []), fun k => s.size + 1 - k.2.1, ⟨(0, 0, 0), ⟨Nat.le_refl _, Nat.zero_le _, Nat.zero_le _, rfl, by rw [if_pos (Nat.zero_le _), hsc]; rfl⟩, ⟨[(15, none)], ⟨by kernel_rfl, by kernel_rfl, by kernel_rfl, by kernel_rfl, by kernel_rfl, by kernel_rfl, by kernel_rfl⟩, (by repeat' first | exact trivial | exact rfl | kernel_rfl | exact Dle.of_eq rfl | exact MLe.of_eq rfl | exact Dle.i (by omega) | exact Dle.i (by simp only [Int.toNat_natCast] at *; omega) | exact Dle.nil | exact Dle.rc Dle.nil | exact Option.some_ne_none _ | exact Or.inl rfl | exact Or.inr trivial | omega | (simp only [Int.toNat_natCast] at *; omega) | (intro _ _ _ _; exact Dle.of_eq rfl) | refine And.intro ?_ ?_)⟩⟩, fun k hk => ?_⟩
    obtain ⟨h1, h2, h3, h4, h5⟩ := hk
    by_cases hle : k.2.1 ≤ s.size
    · rw [if_pos hle] at h5
      by_cases hd : k.2.1 < s.size ∧ ¬ (bAt s k.2.1).toNat = 46
      · have hx : ps.drop k.2.2 = (if k.2.1 + 1 ≤ s.size then scan s k.1 (k.2.1 + 1) else []) := by rw [if_pos (by omega), h5, scan_next hd.1 (fun h => hd.2 (dot_nat.1 h))]
        obtain ⟨hd1, hd2⟩ := hd
        have hd2 : ¬ ((bAt s ((k.2.1 : Int)).toNat).toNat : Int) = 46 := fun h => hd2 (by have h : ((bAt s k.2.1).toNat : Int) = 46 := h; omega)
        repeat' first
          | (refine facW_intro ?_; intro _)
          | refine Or.inl ?_
          | ((conv => whnf); first | (refine condW_dec ?_ ?_ <;> intro _ <;> try (exfalso; omega)) | refine condW_not ?_ | (refine condW_bool ?_ ?_ <;> intro _ <;> try (exfalso; omega)) | (refine nbC_t (fun _ => ?_) ?_) | (refine nbC_f ?_ (fun _ => ?_)))
          | refine And.intro (by first | omega | (simp only [Int.toNat_natCast] at *; omega) | (simp only [Nat.reduceAdd, Int.cast_ofNat_Int, true_and, and_true]; omega)  | kernel_rfl) ?_
          | refine RegW.run ?_
          | fail
        exact ⟨(k.1, k.2.1 + 1, k.2.2), ⟨by dsimp only; omega, by dsimp only; omega, h3, h4, hx⟩, ⟨[(15, some 15)], ⟨by kernel_rfl, by kernel_rfl, by kernel_rfl, by kernel_rfl, by kernel_rfl, by kernel_rfl, by kernel_rfl⟩, (by repeat' first | exact trivial | exact rfl | kernel_rfl | exact Dle.of_eq rfl | exact MLe.of_eq rfl | exact Dle.i (by omega) | exact Dle.i (by simp only [Int.toNat_natCast] at *; omega) | exact Dle.nil | exact Dle.rc Dle.nil | exact Option.some_ne_none _ | exact Or.inl rfl | exact Or.inr trivial | omega | (simp only [Int.toNat_natCast] at *; omega) | (intro _ _ _ _; exact Dle.of_eq rfl) | refine And.intro ?_ ?_)⟩, by first | omega | (dsimp only; omega)⟩
      · have hd : k.2.1 < s.size → bAt s k.2.1 = 46 := fun h => Classical.byContradiction fun h2 => hd ⟨h, fun h3 => h2 (dot_nat.2 h3)⟩
        have hd' : k.2.1 < s.size → ((bAt s ((k.2.1 : Int)).toNat).toNat : Int) = 46 := fun h => by
          have := dot_nat.1 (hd h)
          show ((bAt s k.2.1).toNat : Int) = 46
          omega
        rw [scan_step hle hd] at h5
        obtain ⟨h6, h7, h8⟩ := drop_head (d := ⟨#[]⟩) h5
        have hp : (s.extract (k.1 : Int).toNat (k.2.1 : Int).toNat).size ≤ s.size := by rw [ByteArray.size_extract]; omega
        have h7 : ps.getD k.2.2 ⟨#[]⟩ = s.extract (k.1 : Int).toNat (k.2.1 : Int).toNat := h7
        repeat' first
          | (refine facW_intro ?_; intro _)
          | refine Or.inl ?_
          | ((conv => whnf); first | (refine condW_dec ?_ ?_ <;> intro _ <;> try (exfalso; omega)) | refine condW_not ?_ | (refine condW_bool ?_ ?_ <;> intro _ <;> try (exfalso; omega)) | (refine nbC_t (fun _ => ?_) ?_) | (refine nbC_f ?_ (fun _ => ?_)))
          | refine And.intro (by first | omega | (simp only [Int.toNat_natCast] at *; omega) | (simp only [Nat.reduceAdd, Int.cast_ofNat_Int, true_and, and_true]; omega)  | kernel_rfl) ?_
          | refine RegW.run ?_
          | refine ⟨_, l_isKey_sp E _, ?_⟩
          | fail
        all_goals generalize s.extract (k.1 : Int).toNat (k.2.1 : Int).toNat = p at *
        · rename_i hkey
          have hpk : partOk false (ps.getD k.2.2 ⟨#[]⟩) = true := by rw [h7]; exact key_part hkey
          have hst : lstOf (ps.getD k.2.2 ⟨#[]⟩) = ⟨p, 0⟩ := by rw [h7]; exact lst_key hkey
          exact ⟨(k.2.1 + 1, k.2.1 + 1, k.2.2 + 1), ⟨by dsimp only; omega, by dsimp only; omega, by dsimp only; omega, allN_succ h4 hpk, h8⟩, ⟨[(15, some 43)], ⟨by kernel_rfl, by kernel_rfl, by kernel_rfl, by kernel_rfl, by kernel_rfl, by kernel_rfl, by kernel_rfl⟩, (by repeat' first | exact trivial | exact rfl | kernel_rfl | exact Dle.of_eq rfl | exact MLe.of_eq rfl | exact Dle.i (by omega) | exact Dle.i (by simp only [Int.toNat_natCast] at *; omega) | exact Dle.nil | exact Dle.rc Dle.nil | exact Option.some_ne_none _ | exact Or.inl rfl | exact Or.inr trivial | omega | (simp only [Int.toNat_natCast] at *; omega) | (intro _ _ _ _; exact Dle.of_eq rfl) | (intro i j hi hj; exact row_lst E (fun i => lstOf (ps.getD i ⟨#[]⟩)) k.2.2 i j ⟨p, 0⟩ hst hi hj) | refine And.intro ?_ ?_)⟩, by first | omega | (dsimp only; omega)⟩
        · rename_i hkey
          refine ⟨Nat, fun q => [(9, i64 q), (8, i64 (nv p q))], fun q => [], [15], fun q => [], fun q => q ≤ p.size ∧ q ≤ 4 ∧ allN q (fun i => digitB (bAt p i)) = true, fun q => p.size - q, ⟨0, ⟨Nat.zero_le _, Nat.zero_le _, rfl⟩, ⟨[], ⟨by kernel_rfl, by kernel_rfl, by kernel_rfl, by kernel_rfl, by kernel_rfl, by kernel_rfl, by kernel_rfl⟩, (by repeat' first | exact trivial | exact rfl | kernel_rfl | exact Dle.of_eq rfl | exact MLe.of_eq rfl | exact Dle.i (by omega) | exact Dle.i (by simp only [Int.toNat_natCast] at *; omega) | exact Dle.nil | exact Dle.rc Dle.nil | exact Option.some_ne_none _ | exact Or.inl rfl | exact Or.inr trivial | omega | (simp only [Int.toNat_natCast] at *; omega) | (intro _ _ _ _; exact Dle.of_eq rfl) | refine And.intro ?_ ?_)⟩⟩, fun q hq => ?_⟩
          obtain ⟨g1, g2, g3⟩ := hq
          have v0 : IntKind.u8.wrap (((bAt p ((q : Int)).toNat).toNat : Int) - 48) = dw p q := rfl
          have v1 : nv p (q + 1) = 10 * nv p q + dw p q := rfl
          have v2 := nv_small g3 g2
          have v3 := dw_range p q
          have hno : indexB p = false → ps.all (partOk false) = false := fun h => all_no h6 (by rw [h7]; exact no_part hkey (.inl rfl) h)
          repeat' first
            | (refine facW_intro ?_; intro _)
            | refine Or.inl ?_
            | ((conv => whnf); first | (refine condW_dec ?_ ?_ <;> intro _ <;> try (exfalso; omega)) | refine condW_not ?_ | (refine condW_bool ?_ ?_ <;> intro _ <;> try (exfalso; omega)) | (refine nbC_t (fun _ => ?_) ?_) | (refine nbC_f ?_ (fun _ => ?_)))
            | refine And.intro (by first | omega | (simp only [Int.toNat_natCast] at *; omega) | (simp only [Nat.reduceAdd, Int.cast_ofNat_Int, true_and, and_true]; omega)  | kernel_rfl) ?_
            | refine RegW.run ?_
            | refine ⟨_, l_isDigit_sp E _, ?_⟩
            | fail
          all_goals try (have hp0 := str_pos (s := p) (by assumption))
          all_goals
            repeat' first
              | (refine facW_intro ?_; intro _)
              | refine Or.inl ?_
              | ((conv => whnf); first | (refine condW_dec ?_ ?_ <;> intro _ <;> try (exfalso; omega)) | refine condW_not ?_ | (refine condW_bool ?_ ?_ <;> intro _ <;> try (exfalso; omega)) | (refine nbC_t (fun _ => ?_) ?_) | (refine nbC_f ?_ (fun _ => ?_)))
              | refine And.intro (by first | omega | (simp only [Int.toNat_natCast] at *; omega) | (simp only [Nat.reduceAdd, Int.cast_ofNat_Int, true_and, and_true]; omega)  | kernel_rfl) ?_
              | refine RegW.run ?_
              | refine ⟨_, l_isDigit_sp E _, ?_⟩
              | fail
          all_goals first
            | (rename_i h9 h10
               exact ⟨q + 1, ⟨by omega, by omega, allN_succ g3 h9⟩, ⟨[], ⟨by kernel_rfl, by kernel_rfl, by kernel_rfl, by kernel_rfl, by kernel_rfl, by kernel_rfl, by kernel_rfl⟩, (by repeat' first | exact trivial | exact rfl | kernel_rfl | exact Dle.of_eq rfl | exact MLe.of_eq rfl | exact Dle.i (by omega) | exact Dle.i (by simp only [Int.toNat_natCast] at *; omega) | exact Dle.nil | exact Dle.rc Dle.nil | exact Option.some_ne_none _ | exact Or.inl rfl | exact Or.inr trivial | omega | (simp only [Int.toNat_natCast] at *; omega) | (intro _ _ _ _; exact Dle.of_eq rfl) | refine And.intro ?_ ?_)⟩, by first | omega | (dsimp only; omega)⟩)
            | (rw [hno (by first | exact no_idx3 (by assumption) | (exact no_idx1 (k := q) (by omega) (by assumption)) | exact no_idx2 (by omega) | exact no_idx4 (by simp only [Int.toNat_zero] at *; omega) (by assumption))]
               exact Dle.tup (X := (cx Tryz.prog mixed tyT_ok E)) ⟨Dle.nil, Dle.refl _ _, trivial⟩)
            | (have hq : q = p.size := by omega
               subst hq
               have hix : indexB p = true := yes_idx hp0 g2 g3 (by first | (rintro ⟨-, h2⟩; exact h2 (by assumption)) | (rintro ⟨h2, -⟩; simp only [Int.toNat_zero] at *; omega))
               have hpk : partOk false (ps.getD k.2.2 ⟨#[]⟩) = true := by rw [h7]; exact yes_part hix
               have hst : lstOf (ps.getD k.2.2 ⟨#[]⟩) = ⟨⟨#[]⟩, nv p p.size⟩ := by rw [h7, lst_num hkey, nv_num (idx_digs hix).1 (idx_digs hix).2]
               exact ⟨(k.2.1 + 1, k.2.1 + 1, k.2.2 + 1), ⟨by dsimp only; omega, by dsimp only; omega, by dsimp only; omega, allN_succ h4 hpk, h8⟩, ⟨[(15, some 82)], ⟨by kernel_rfl, by kernel_rfl, by kernel_rfl, by kernel_rfl, by kernel_rfl, by kernel_rfl, by kernel_rfl⟩, (by repeat' first | exact trivial | exact rfl | kernel_rfl | exact Dle.of_eq rfl | exact MLe.of_eq rfl | exact Dle.i (by omega) | exact Dle.i (by simp only [Int.toNat_natCast] at *; omega) | exact Dle.nil | exact Dle.rc Dle.nil | exact Option.some_ne_none _ | exact Or.inl rfl | exact Or.inr trivial | omega | (simp only [Int.toNat_natCast] at *; omega) | (intro _ _ _ _; exact Dle.of_eq rfl) | (intro i j hi hj; exact row_lst E (fun i => lstOf (ps.getD i ⟨#[]⟩)) k.2.2 i j ⟨⟨#[]⟩, nv p p.size⟩ hst hi hj) | refine And.intro ?_ ?_)⟩, by first | omega | (dsimp only; omega)⟩)
            | exfalso
          all_goals trace_state
        · rename_i hkey
          have hpk : partOk false (ps.getD k.2.2 ⟨#[]⟩) = true := by rw [h7]; exact key_part hkey
          have hst : lstOf (ps.getD k.2.2 ⟨#[]⟩) = ⟨p, 0⟩ := by rw [h7]; exact lst_key hkey
          exact ⟨(k.2.1 + 1, k.2.1 + 1, k.2.2 + 1), ⟨by dsimp only; omega, by dsimp only; omega, by dsimp only; omega, allN_succ h4 hpk, h8⟩, ⟨[(15, some 43)], ⟨by kernel_rfl, by kernel_rfl, by kernel_rfl, by kernel_rfl, by kernel_rfl, by kernel_rfl, by kernel_rfl⟩, (by repeat' first | exact trivial | exact rfl | kernel_rfl | exact Dle.of_eq rfl | exact MLe.of_eq rfl | exact Dle.i (by omega) | exact Dle.i (by simp only [Int.toNat_natCast] at *; omega) | exact Dle.nil | exact Dle.rc Dle.nil | exact Option.some_ne_none _ | exact Or.inl rfl | exact Or.inr trivial | omega | (simp only [Int.toNat_natCast] at *; omega) | (intro _ _ _ _; exact Dle.of_eq rfl) | (intro i j hi hj; exact row_lst E (fun i => lstOf (ps.getD i ⟨#[]⟩)) k.2.2 i j ⟨p, 0⟩ hst hi hj) | refine And.intro ?_ ?_)⟩, by first | omega | (dsimp only; omega)⟩
        · rename_i hkey
          refine ⟨Nat, fun q => [(9, i64 q), (8, i64 (nv p q))], fun q => [], [15], fun q => [], fun q => q ≤ p.size ∧ q ≤ 4 ∧ allN q (fun i => digitB (bAt p i)) = true, fun q => p.size - q, ⟨0, ⟨Nat.zero_le _, Nat.zero_le _, rfl⟩, ⟨[], ⟨by kernel_rfl, by kernel_rfl, by kernel_rfl, by kernel_rfl, by kernel_rfl, by kernel_rfl, by kernel_rfl⟩, (by repeat' first | exact trivial | exact rfl | kernel_rfl | exact Dle.of_eq rfl | exact MLe.of_eq rfl | exact Dle.i (by omega) | exact Dle.i (by simp only [Int.toNat_natCast] at *; omega) | exact Dle.nil | exact Dle.rc Dle.nil | exact Option.some_ne_none _ | exact Or.inl rfl | exact Or.inr trivial | omega | (simp only [Int.toNat_natCast] at *; omega) | (intro _ _ _ _; exact Dle.of_eq rfl) | refine And.intro ?_ ?_)⟩⟩, fun q hq => ?_⟩
          obtain ⟨g1, g2, g3⟩ := hq
          have v0 : IntKind.u8.wrap (((bAt p ((q : Int)).toNat).toNat : Int) - 48) = dw p q := rfl
          have v1 : nv p (q + 1) = 10 * nv p q + dw p q := rfl
          have v2 := nv_small g3 g2
          have v3 := dw_range p q
          have hno : indexB p = false → ps.all (partOk false) = false := fun h => all_no h6 (by rw [h7]; exact no_part hkey (.inl rfl) h)
          repeat' first
            | (refine facW_intro ?_; intro _)
            | refine Or.inl ?_
            | ((conv => whnf); first | (refine condW_dec ?_ ?_ <;> intro _ <;> try (exfalso; omega)) | refine condW_not ?_ | (refine condW_bool ?_ ?_ <;> intro _ <;> try (exfalso; omega)) | (refine nbC_t (fun _ => ?_) ?_) | (refine nbC_f ?_ (fun _ => ?_)))
            | refine And.intro (by first | omega | (simp only [Int.toNat_natCast] at *; omega) | (simp only [Nat.reduceAdd, Int.cast_ofNat_Int, true_and, and_true]; omega)  | kernel_rfl) ?_
            | refine RegW.run ?_
            | refine ⟨_, l_isDigit_sp E _, ?_⟩
            | fail
          all_goals try (have hp0 := str_pos (s := p) (by assumption))
          all_goals
            repeat' first
              | (refine facW_intro ?_; intro _)
              | refine Or.inl ?_
              | ((conv => whnf); first | (refine condW_dec ?_ ?_ <;> intro _ <;> try (exfalso; omega)) | refine condW_not ?_ | (refine condW_bool ?_ ?_ <;> intro _ <;> try (exfalso; omega)) | (refine nbC_t (fun _ => ?_) ?_) | (refine nbC_f ?_ (fun _ => ?_)))
              | refine And.intro (by first | omega | (simp only [Int.toNat_natCast] at *; omega) | (simp only [Nat.reduceAdd, Int.cast_ofNat_Int, true_and, and_true]; omega)  | kernel_rfl) ?_
              | refine RegW.run ?_
              | refine ⟨_, l_isDigit_sp E _, ?_⟩
              | fail
          all_goals first
            | (rename_i h9 h10
               exact ⟨q + 1, ⟨by omega, by omega, allN_succ g3 h9⟩, ⟨[], ⟨by kernel_rfl, by kernel_rfl, by kernel_rfl, by kernel_rfl, by kernel_rfl, by kernel_rfl, by kernel_rfl⟩, (by repeat' first | exact trivial | exact rfl | kernel_rfl | exact Dle.of_eq rfl | exact MLe.of_eq rfl | exact Dle.i (by omega) | exact Dle.i (by simp only [Int.toNat_natCast] at *; omega) | exact Dle.nil | exact Dle.rc Dle.nil | exact Option.some_ne_none _ | exact Or.inl rfl | exact Or.inr trivial | omega | (simp only [Int.toNat_natCast] at *; omega) | (intro _ _ _ _; exact Dle.of_eq rfl) | refine And.intro ?_ ?_)⟩, by first | omega | (dsimp only; omega)⟩)
            | (rw [hno (by first | exact no_idx3 (by assumption) | (exact no_idx1 (k := q) (by omega) (by assumption)) | exact no_idx2 (by omega) | exact no_idx4 (by simp only [Int.toNat_zero] at *; omega) (by assumption))]
               exact Dle.tup (X := (cx Tryz.prog mixed tyT_ok E)) ⟨Dle.nil, Dle.refl _ _, trivial⟩)
            | (have hq : q = p.size := by omega
               subst hq
               have hix : indexB p = true := yes_idx hp0 g2 g3 (by first | (rintro ⟨-, h2⟩; exact h2 (by assumption)) | (rintro ⟨h2, -⟩; simp only [Int.toNat_zero] at *; omega))
               have hpk : partOk false (ps.getD k.2.2 ⟨#[]⟩) = true := by rw [h7]; exact yes_part hix
               have hst : lstOf (ps.getD k.2.2 ⟨#[]⟩) = ⟨⟨#[]⟩, nv p p.size⟩ := by rw [h7, lst_num hkey, nv_num (idx_digs hix).1 (idx_digs hix).2]
               exact ⟨(k.2.1 + 1, k.2.1 + 1, k.2.2 + 1), ⟨by dsimp only; omega, by dsimp only; omega, by dsimp only; omega, allN_succ h4 hpk, h8⟩, ⟨[(15, some 82)], ⟨by kernel_rfl, by kernel_rfl, by kernel_rfl, by kernel_rfl, by kernel_rfl, by kernel_rfl, by kernel_rfl⟩, (by repeat' first | exact trivial | exact rfl | kernel_rfl | exact Dle.of_eq rfl | exact MLe.of_eq rfl | exact Dle.i (by omega) | exact Dle.i (by simp only [Int.toNat_natCast] at *; omega) | exact Dle.nil | exact Dle.rc Dle.nil | exact Option.some_ne_none _ | exact Or.inl rfl | exact Or.inr trivial | omega | (simp only [Int.toNat_natCast] at *; omega) | (intro _ _ _ _; exact Dle.of_eq rfl) | (intro i j hi hj; exact row_lst E (fun i => lstOf (ps.getD i ⟨#[]⟩)) k.2.2 i j ⟨⟨#[]⟩, nv p p.size⟩ hst hi hj) | refine And.intro ?_ ?_)⟩, by first | omega | (dsimp only; omega)⟩)
            | exfalso
          all_goals trace_state
    · have h9 : ps.drop k.2.2 = [] := by rw [h5, if_neg hle]
      have h9 : ps.length ≤ k.2.2 := List.drop_eq_nil_iff.1 h9
      rw [all_end h4 h9]
      repeat' first
        | (refine facW_intro ?_; intro _)
        | refine Or.inl ?_
        | ((conv => whnf); first | (refine condW_dec ?_ ?_ <;> intro _ <;> try (exfalso; omega)) | refine condW_not ?_ | (refine condW_bool ?_ ?_ <;> intro _ <;> try (exfalso; omega)) | (refine nbC_t (fun _ => ?_) ?_) | (refine nbC_f ?_ (fun _ => ?_)))
        | refine And.intro (by first | omega | (simp only [Int.toNat_natCast] at *; omega) | (simp only [Nat.reduceAdd, Int.cast_ofNat_Int, true_and, and_true]; omega)  | kernel_rfl) ?_
        | refine RegW.run ?_
        | fail
      exact Dle.tup (X := (cx Tryz.prog mixed tyT_ok E)) ⟨Dle.sl (X := (cx Tryz.prog mixed tyT_ok E)) (by simp; omega) (fun i j hi hj => Dle.of_eq (by simp [List.getD, show i < ps.length by omega])), Dle.refl _ _, trivial⟩
end
end Go.Proofs.YthoemnhigboahaaGreatDoor
namespace Go.Proofs.YthoemnhigboahaaGreatDoor
open Go.RowKit
set_option linter.unusedVariables false
set_option linter.unusedSimpArgs false
def nextV (v : Vu) (p : ByteArray) : Vu := (followP v p).getD .zero
def atP : List ByteArray → Vu → Vu
  | [], v => v
  | p :: r, v => atP r (nextV v p)
theorem followP_zero (p : ByteArray) : followP .zero p = none := by
  unfold followP
  have : stepR .zero p < 0 := by
    unfold stepR
    split
    · rw [if_neg (by decide)]; decide
    · rw [if_neg (fun h => absurd h.1 (by decide))]; decide
  rw [if_pos this]
theorem atP_zero : ∀ l : List ByteArray, atP l .zero = .zero
  | [] => rfl
  | p :: r => by
    have h : nextV .zero p = .zero := by unfold nextV; rw [followP_zero]; rfl
    rw [atP, h, atP_zero r]
theorem atP_get : ∀ (l : List ByteArray) (v : Vu), atP l v = (getP l v).getD .zero
  | [], _ => rfl
  | p :: r, v => by
    rw [atP, getP]
    unfold nextV
    cases h : followP v p with
    | none => exact atP_zero r
    | some x => exact atP_get r x
theorem atP_drop {l : List ByteArray} {k : Nat} {v : Vu} (h : k < l.length) : atP (l.drop k) v = atP (l.drop (k + 1)) (nextV v (l.getD k ⟨#[]⟩)) := by
  rw [drop_cons l ⟨#[]⟩ k h]; rfl
theorem atP_end {l : List ByteArray} {k : Nat} {v : Vu} (h : l.length ≤ k) : atP (l.drop k) v = v := by rw [List.drop_of_length_le h]; rfl
theorem item_zero : itemE .zero = 0 := by
  rw [itemE_eq]
  have h : headI .zero = 0 := by
    rw [headI_P]
    simp [Vu.zero, headP, skind, Vu.kind, Vu.b, Vu.i, Vu.text, Vu.items, Vu.keys, badStr_nil, size_nil, keysFrom_end]
  rw [if_pos h]
  rfl
theorem next_ok {v : Vu} {p : ByteArray} (h : itemE v = 0) : itemE (nextV v p) = 0 := by
  unfold nextV followP
  split
  · exact item_zero
  · rename_i h1
    rcases step_lt (p := p) (item_keys h).2 with h2 | ⟨m, h2, h3⟩
    · exact absurd h2 h1
    · rw [h2]
      exact item_mem h h3
def hasR (v : Vu) (s : ByteArray) : Vu := atP (if routeOk false s = true then partsR s else []) v
theorem parts_ok {s : ByteArray} : ∀ p ∈ (if routeOk false s = true then partsR s else []), partOk false p = true := by
  intro p hp
  split at hp
  · rename_i h
    unfold routeOk at h
    unfold partsR at hp
    simp only [Bool.and_eq_true, Bool.or_eq_true, decide_eq_true_eq, List.all_eq_true] at h
    split at hp
    · cases hp
    · rename_i h2
      exact (h.2.resolve_left h2) p hp
  · cases hp
def listL : List Vu → Int
  | [] => 0
  | x :: r => if itemCheckE x = 0 then listL r else itemCheckE x
def listE (l : List Vu) : Int := if 2000 < l.length then 4 else listL l
theorem listL_drop {l : List Vu} {k : Nat} (h : k < l.length) : listL (l.drop k) = if itemCheckE (l.getD k .zero) = 0 then listL (l.drop (k + 1)) else itemCheckE (l.getD k .zero) := by
  rw [drop_cons l .zero k h]; simp only [listL]
theorem listL_end {l : List Vu} {k : Nat} (h : l.length ≤ k) : listL (l.drop k) = 0 := by rw [List.drop_of_length_le h]; rfl
theorem listL_mem : ∀ (l : List Vu), listL l = 0 → ∀ x ∈ l, itemCheckE x = 0
  | [], _, x, hx => by cases hx
  | a :: l, h, x, hx => by
    rw [listL] at h
    split at h
    · rename_i h1
      rcases List.mem_cons.1 hx with rfl | hx
      · exact h1
      · exact listL_mem l h x hx
    · rename_i h1
      exact absurd h h1
theorem itemCheck_ok {v : Vu} (h : itemCheckE v = 0) : itemE v = 0 := by
  unfold itemCheckE at h
  split at h
  · cases h
  · split at h
    · cases h
    · exact h
theorem wt_memU : ∀ (l : List Vu) (x : Vu), x ∈ l → x.wt ≤ Vu.wtL l
  | a :: l, x, h => by
    rcases List.mem_cons.1 h with rfl | h
    · simp [Vu.wtL]
    · have := wt_memU l x h; simp [Vu.wtL]; omega
theorem sum_mem {l : List Vu} {n : Nat} (h : Vu.wtL l ≤ n) {k : Nat} (hk : k < l.length) : (l.getD k .zero).wt ≤ n := Nat.le_trans (wt_memU l _ (getD_mem l .zero k hk)) h
section
variable (E : Env)
set_option maxRecDepth 100000
set_option maxHeartbeats 1000000 in
theorem listFault_sp (l : List Vu) (hw : Vu.wtL l ≤ 100000000) : Sp (cx Tryz.prog mixed tyT_ok E) 42 [.rc (.vals l)] (i64 (listE l)) := by
  obtain ⟨r, hr⟩ : ∃ r, r = listE l := ⟨_, rfl⟩
  rw [← hr]
  unfold listE at hr
  refine Sp.body Tryz.func42 (by kernel_rfl) rfl (by kernel_rfl) (by kernel_rfl) (by kernel_rfl) ?_
  repeat' first
    | (refine facW_intro ?_; intro _)
    | refine Or.inl ?_
    | ((conv => whnf); first | (refine condW_dec ?_ ?_ <;> intro _) | refine condW_not ?_ | (refine condW_bool ?_ ?_ <;> intro _) | (refine nbC_t (fun _ => ?_) ?_) | (refine nbC_f ?_ (fun _ => ?_)))
    | refine And.intro (by first | omega | (simp only [Int.toNat_natCast] at *; omega) | (simp only [Nat.reduceAdd, Int.cast_ofNat_Int, true_and, and_true]; omega)  | kernel_rfl) ?_
    | refine RegW.run ?_
    | fail
  · exact Dle.i (by rw [hr, if_pos (by omega)])
  · rw [if_neg (by omega)] at hr
    refine ⟨Nat, fun k => [(11, i64 k)], fun k => [], [], fun k => [], fun k => k ≤ l.length ∧ r = listL (l.drop k), fun k => l.length - k, ⟨0, ⟨by omega, hr⟩, ⟨[], ⟨by kernel_rfl, by kernel_rfl, by kernel_rfl, by kernel_rfl, by kernel_rfl, by kernel_rfl, by kernel_rfl⟩, (by repeat' first | exact trivial | exact rfl | kernel_rfl | exact Dle.of_eq rfl | exact MLe.of_eq rfl | exact Dle.i (by omega) | exact Dle.i (by simp only [Int.toNat_natCast] at *; omega) | exact Dle.nil | exact Dle.rc Dle.nil | exact Option.some_ne_none _ | exact Or.inl rfl | exact Or.inr trivial | omega | (simp only [Int.toNat_natCast] at *; omega) | (intro _ _ _ _; exact Dle.of_eq rfl) | refine And.intro ?_ ?_)⟩⟩, fun k hk => ?_⟩
    obtain ⟨hk, hK⟩ := hk
    refine Or.inl ?_
    refine condW_dec ?_ ?_ <;> intro hlt
    · have hlt : k < l.length := by omega
      rw [listL_drop hlt] at hK
      have hc := checkItem_sp E (l.getD k .zero) (by have := cnt_le_wt (l.getD k .zero); have := sum_mem hw hlt; omega)
      generalize itemCheckE (l.getD k .zero) = e at hc hK
      repeat' first
        | (refine facW_intro ?_; intro _)
        | refine Or.inl ?_
        | ((conv => whnf); first | (refine condW_dec ?_ ?_ <;> intro _) | refine condW_not ?_ | (refine condW_bool ?_ ?_ <;> intro _) | (refine nbC_t (fun _ => ?_) ?_) | (refine nbC_f ?_ (fun _ => ?_)))
        | refine And.intro (by first | omega | (simp only [Int.toNat_natCast] at *; omega) | (simp only [Nat.reduceAdd, Int.cast_ofNat_Int, true_and, and_true]; omega)  | kernel_rfl) ?_
        | refine RegW.run ?_
        | refine ⟨_, hc, ?_⟩
        | fail
      · rename_i h
        exact ⟨k + 1, ⟨by omega, by rw [hK, if_pos h]⟩, ⟨[], ⟨by kernel_rfl, by kernel_rfl, by kernel_rfl, by kernel_rfl, by kernel_rfl, by kernel_rfl, by kernel_rfl⟩, (by repeat' first | exact trivial | exact rfl | kernel_rfl | exact Dle.of_eq rfl | exact MLe.of_eq rfl | exact Dle.i (by omega) | exact Dle.i (by simp only [Int.toNat_natCast] at *; omega) | exact Dle.nil | exact Dle.rc Dle.nil | exact Option.some_ne_none _ | exact Or.inl rfl | exact Or.inr trivial | omega | (simp only [Int.toNat_natCast] at *; omega) | (intro _ _ _ _; exact Dle.of_eq rfl) | refine And.intro ?_ ?_)⟩, by first | omega | (dsimp only; omega)⟩
      · rename_i h
        exact Dle.i (by rw [hK, if_neg h])
    · repeat' first
        | (refine facW_intro ?_; intro _)
        | refine Or.inl ?_
        | ((conv => whnf); first | (refine condW_dec ?_ ?_ <;> intro _) | refine condW_not ?_ | (refine condW_bool ?_ ?_ <;> intro _) | (refine nbC_t (fun _ => ?_) ?_) | (refine nbC_f ?_ (fun _ => ?_)))
        | refine And.intro (by first | omega | (simp only [Int.toNat_natCast] at *; omega) | (simp only [Nat.reduceAdd, Int.cast_ofNat_Int, true_and, and_true]; omega)  | kernel_rfl) ?_
        | refine RegW.run ?_
        | fail
      exact Dle.i (by rw [hK, listL_end (by omega)])
set_option maxHeartbeats 1000000 in
theorem refListFault_sp (l : List Vu) (hw : Vu.wtL l ≤ 100000000) : Sp (cx Tryz.prog mixed tyT_ok E) 8 [.rc (.vals l)] (i64 (listE l)) := by
  obtain ⟨r, hr⟩ : ∃ r, r = listE l := ⟨_, rfl⟩
  rw [← hr]
  unfold listE at hr
  refine Sp.body Tryz.func8 (by kernel_rfl) rfl (by kernel_rfl) (by kernel_rfl) (by kernel_rfl) ?_
  repeat' first
    | (refine facW_intro ?_; intro _)
    | refine Or.inl ?_
    | ((conv => whnf); first | (refine condW_dec ?_ ?_ <;> intro _) | refine condW_not ?_ | (refine condW_bool ?_ ?_ <;> intro _) | (refine nbC_t (fun _ => ?_) ?_) | (refine nbC_f ?_ (fun _ => ?_)))
    | refine And.intro (by first | omega | (simp only [Int.toNat_natCast] at *; omega) | (simp only [Nat.reduceAdd, Int.cast_ofNat_Int, true_and, and_true]; omega)  | kernel_rfl) ?_
    | refine RegW.run ?_
    | fail
  · exact Dle.i (by rw [hr, if_pos (by omega)])
  · rw [if_neg (by omega)] at hr
    refine ⟨Nat, fun k => [(11, i64 k)], fun k => [], [], fun k => [], fun k => k ≤ l.length ∧ r = listL (l.drop k), fun k => l.length - k, ⟨0, ⟨by omega, hr⟩, ⟨[], ⟨by kernel_rfl, by kernel_rfl, by kernel_rfl, by kernel_rfl, by kernel_rfl, by kernel_rfl, by kernel_rfl⟩, (by repeat' first | exact trivial | exact rfl | kernel_rfl | exact Dle.of_eq rfl | exact MLe.of_eq rfl | exact Dle.i (by omega) | exact Dle.i (by simp only [Int.toNat_natCast] at *; omega) | exact Dle.nil | exact Dle.rc Dle.nil | exact Option.some_ne_none _ | exact Or.inl rfl | exact Or.inr trivial | omega | (simp only [Int.toNat_natCast] at *; omega) | (intro _ _ _ _; exact Dle.of_eq rfl) | refine And.intro ?_ ?_)⟩⟩, fun k hk => ?_⟩
    obtain ⟨hk, hK⟩ := hk
    refine Or.inl ?_
    refine condW_dec ?_ ?_ <;> intro hlt
    · have hlt : k < l.length := by omega
      rw [listL_drop hlt] at hK
      have hc := refItem_sp E (l.getD k .zero) (by have := cnt_le_wt (l.getD k .zero); have := sum_mem hw hlt; omega)
      generalize itemCheckE (l.getD k .zero) = e at hc hK
      repeat' first
        | (refine facW_intro ?_; intro _)
        | refine Or.inl ?_
        | ((conv => whnf); first | (refine condW_dec ?_ ?_ <;> intro _) | refine condW_not ?_ | (refine condW_bool ?_ ?_ <;> intro _) | (refine nbC_t (fun _ => ?_) ?_) | (refine nbC_f ?_ (fun _ => ?_)))
        | refine And.intro (by first | omega | (simp only [Int.toNat_natCast] at *; omega) | (simp only [Nat.reduceAdd, Int.cast_ofNat_Int, true_and, and_true]; omega)  | kernel_rfl) ?_
        | refine RegW.run ?_
        | refine ⟨_, hc, ?_⟩
        | fail
      · rename_i h
        exact ⟨k + 1, ⟨by omega, by rw [hK, if_pos h]⟩, ⟨[], ⟨by kernel_rfl, by kernel_rfl, by kernel_rfl, by kernel_rfl, by kernel_rfl, by kernel_rfl, by kernel_rfl⟩, (by repeat' first | exact trivial | exact rfl | kernel_rfl | exact Dle.of_eq rfl | exact MLe.of_eq rfl | exact Dle.i (by omega) | exact Dle.i (by simp only [Int.toNat_natCast] at *; omega) | exact Dle.nil | exact Dle.rc Dle.nil | exact Option.some_ne_none _ | exact Or.inl rfl | exact Or.inr trivial | omega | (simp only [Int.toNat_natCast] at *; omega) | (intro _ _ _ _; exact Dle.of_eq rfl) | refine And.intro ?_ ?_)⟩, by first | omega | (dsimp only; omega)⟩
      · rename_i h
        exact Dle.i (by rw [hK, if_neg h])
    · repeat' first
        | (refine facW_intro ?_; intro _)
        | refine Or.inl ?_
        | ((conv => whnf); first | (refine condW_dec ?_ ?_ <;> intro _) | refine condW_not ?_ | (refine condW_bool ?_ ?_ <;> intro _) | (refine nbC_t (fun _ => ?_) ?_) | (refine nbC_f ?_ (fun _ => ?_)))
        | refine And.intro (by first | omega | (simp only [Int.toNat_natCast] at *; omega) | (simp only [Nat.reduceAdd, Int.cast_ofNat_Int, true_and, and_true]; omega)  | kernel_rfl) ?_
        | refine RegW.run ?_
        | fail
      exact Dle.i (by rw [hK, listL_end (by omega)])
theorem hasAt_sp (hML : ∀ w, E.G w → ML w) (v : Vu) (s : ByteArray) (hv : itemE v = 0) (hs : s.size ≤ 1000000000) : Sp (cx Tryz.prog mixed tyT_ok E) 52 [encV v, dS s] (encV (hasR v s)) := by
  have h2 := routeParts_sp E hML s false hs
  have h3 := refFollow_sp E v _ (parts_ok (s := s)) hv
  unfold hasR
  rw [atP_get]
  generalize (if routeOk false s = true then partsR s else []) = ps at h2 h3
  generalize (getP ps v).getD .zero = x at h3
  generalize (getP ps v).isSome = b at h3
  refine Sp.body Tryz.func52 (by kernel_rfl) rfl (by kernel_rfl) (by kernel_rfl) (by kernel_rfl) ?_
  repeat' first
    | (refine facW_intro ?_; intro _)
    | refine Or.inl ?_
    | ((conv => whnf); first | (refine condW_dec ?_ ?_ <;> intro _) | refine condW_not ?_ | (refine condW_bool ?_ ?_ <;> intro _) | (refine nbC_t (fun _ => ?_) ?_) | (refine nbC_f ?_ (fun _ => ?_)))
    | refine And.intro (by first | omega | (simp only [Int.toNat_natCast] at *; omega) | (simp only [Nat.reduceAdd, Int.cast_ofNat_Int, true_and, and_true]; omega)  | kernel_rfl) ?_
    | refine RegW.run ?_
    | refine ⟨_, h2, ?_⟩
    | refine ⟨_, h3, ?_⟩
    | fail
  exact Dle.refl _ _
end
end Go.Proofs.YthoemnhigboahaaGreatDoor
