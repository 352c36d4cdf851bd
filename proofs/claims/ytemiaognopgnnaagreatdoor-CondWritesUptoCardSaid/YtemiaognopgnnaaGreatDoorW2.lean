/-
  list.isKey, steps.
-/
import Derived.Test.YtemiaognopgnnaaGreatDoorU1
import Derived.Test.YtemiaognopgnnaaGreatDoorW1
namespace Go.Proofs.YtemiaognopgnnaaGreatDoor
open Go.RowKit
set_option linter.unusedVariables false
set_option linter.unusedSimpArgs false
theorem part_cases {p : ByteArray} (h : partOk false p = true) : 0 < p.size ∧ ((keyOkB p = true ∧ 97 ≤ (bAt p 0).toNat) ∨ (keyOkB p = false ∧ indexB p = true ∧ (bAt p 0).toNat < 97)) := by
  unfold partOk at h
  cases hk : keyOkB p
  · rw [hk] at h
    have h : indexB p = true := by simpa using h
    have h1 := (idx_ref p).1 h
    have hp := dgB_pos h1.1
    have h2 := h1.1
    unfold dgB digs at h2
    simp only [Bool.and_eq_true] at h2
    have := digitB_iff.1 (allN_iff.1 h2.2 0 hp)
    exact ⟨hp, .inr ⟨rfl, h, by omega⟩⟩
  · have h2 := hk
    unfold keyOkB at h2
    simp only [Bool.and_eq_true, decide_eq_true_eq] at h2
    have := smallB_iff.1 h2.1.2
    exact ⟨h2.1.1.1, .inl ⟨rfl, this.1⟩⟩
theorem idx_digs {p : ByteArray} (h : indexB p = true) : digs p = true ∧ p.size ≤ 4 := by
  have h1 := (idx_ref p).1 h
  have h2 := h1.1
  unfold dgB at h2
  simp only [Bool.and_eq_true] at h2
  exact ⟨h2.2, by omega⟩
section
variable (E : Env)
set_option maxRecDepth 100000
theorem l_isSmall_sp (c : UInt8) : Sp (cx Tryz.prog mixed tyT_ok E) 261 [.v (.int .u8 c.toNat)] (dB (smallB c)) := by
  refine Sp.body Tryz.func261 (by kernel_rfl) rfl (by kernel_rfl) (by kernel_rfl) (by kernel_rfl) ?_
  refine condW_dec ?_ ?_
  · intro h
    exact Dle.bo (by unfold smallB; grind)
  · intro h
    exact Dle.bo (by unfold smallB; grind)
theorem l_isDigit_sp (c : UInt8) : Sp (cx Tryz.prog mixed tyT_ok E) 245 [.v (.int .u8 c.toNat)] (dB (digitB c)) := by
  refine Sp.body Tryz.func245 (by kernel_rfl) rfl (by kernel_rfl) (by kernel_rfl) (by kernel_rfl) ?_
  refine condW_dec ?_ ?_
  · intro h
    exact Dle.bo (by unfold digitB; grind)
  · intro h
    exact Dle.bo (by unfold digitB; grind)
theorem l_isKey_sp (s : ByteArray) : Sp (cx Tryz.prog mixed tyT_ok E) 244 [dS s] (dB (keyOkB s)) := by
  refine Sp.body Tryz.func244 (by kernel_rfl) rfl (by kernel_rfl) (by kernel_rfl) (by kernel_rfl) ?_
  refine Or.inl ?_
  refine condW_dec ?_ ?_ <;> intro h0
  · exact Dle.bo (by rw [keyOkB_no1 h0])
  have hp := str_pos h0
  repeat' first
    | (refine facW_intro ?_; intro _)
    | refine Or.inl ?_
    | ((conv => whnf); first | (refine condW_dec ?_ ?_ <;> intro _) | refine condW_not ?_ | (refine condW_bool ?_ ?_ <;> intro _) | (refine nbC_t (fun _ => ?_) ?_) | (refine nbC_f ?_ (fun _ => ?_)))
    | refine And.intro (by first | omega | (simp only [Int.toNat_natCast] at *; omega) | (simp only [Nat.reduceAdd, Int.cast_ofNat_Int, true_and, and_true]; omega)  | kernel_rfl) ?_
    | refine RegW.run ?_
    | refine ⟨_, l_isSmall_sp E _, ?_⟩
    | fail
  · exact Dle.bo (by rw [keyOkB_no2 (by omega)])
  rotate_left
  · rename_i h
    exact Dle.bo (by rw [keyOkB_no3 h])
  rename_i hs
  refine ⟨Nat, fun k => [(3, i64 k)], fun k => [], [], fun k => [], fun k => 1 ≤ k ∧ k ≤ s.size ∧ allN k (fun k => kchB (bAt s k)) = true, fun k => s.size - k, ⟨1, ⟨by omega, by omega, allN_one rfl (by simp only [kchB, Bool.or_eq_true]; exact Or.inl (Or.inl (Or.inl hs)))⟩, ⟨[], ⟨by kernel_rfl, by kernel_rfl, by kernel_rfl, by kernel_rfl, by kernel_rfl, by kernel_rfl, by kernel_rfl⟩, (by repeat' first | exact trivial | exact rfl | kernel_rfl | exact Dle.of_eq rfl | exact MLe.of_eq rfl | exact Dle.i (by omega) | exact Dle.i (by simp only [Int.toNat_natCast] at *; omega) | exact Dle.nil | exact Dle.rc Dle.nil | exact Option.some_ne_none _ | exact Or.inl rfl | exact Or.inr trivial | omega | (simp only [Int.toNat_natCast] at *; omega) | (intro _ _ _ _; exact Dle.of_eq rfl) | refine And.intro ?_ ?_)⟩⟩, fun k hk => ?_⟩
  obtain ⟨h1, hk, hall⟩ := hk
  have hend : s.size ≤ k → keyOkB s = true := fun h => by
    obtain rfl : k = s.size := by omega
    exact keyOkB_yes hp (by omega) hs hall
  have hno : k < s.size → kchB (bAt s k) = false → keyOkB s = false := fun h e => keyOkB_no4 e h
  repeat' first
    | (refine facW_intro ?_; intro _)
    | refine Or.inl ?_
    | ((conv => whnf); first | (refine condW_dec ?_ ?_ <;> intro _) | refine condW_not ?_ | (refine condW_bool ?_ ?_ <;> intro _) | (refine nbC_t (fun _ => ?_) ?_) | (refine nbC_f ?_ (fun _ => ?_)))
    | refine And.intro (by first | omega | (simp only [Int.toNat_natCast] at *; omega) | (simp only [Nat.reduceAdd, Int.cast_ofNat_Int, true_and, and_true]; omega)  | kernel_rfl) ?_
    | refine RegW.run ?_
    | refine ⟨_, l_isSmall_sp E _, ?_⟩
    | refine ⟨_, l_isDigit_sp E _, ?_⟩
    | fail
  all_goals first
    | (refine ⟨k + 1, ⟨by omega, by omega, allN_succ hall ?_⟩, ⟨[], ⟨by kernel_rfl, by kernel_rfl, by kernel_rfl, by kernel_rfl, by kernel_rfl, by kernel_rfl, by kernel_rfl⟩, (by repeat' first | exact trivial | exact rfl | kernel_rfl | exact Dle.of_eq rfl | exact MLe.of_eq rfl | exact Dle.i (by omega) | exact Dle.i (by simp only [Int.toNat_natCast] at *; omega) | exact Dle.nil | exact Dle.rc Dle.nil | exact Option.some_ne_none _ | exact Or.inl rfl | exact Or.inr trivial | omega | (simp only [Int.toNat_natCast] at *; omega) | (intro _ _ _ _; exact Dle.of_eq rfl) | refine And.intro ?_ ?_)⟩, by first | omega | (dsimp only; omega)⟩; simp only [Int.toNat_natCast] at *; simp only [kchB, Bool.or_eq_true, decide_eq_true_eq]; grind)
    | exact Dle.bo (by rw [hend (by omega)])
    | exact Dle.bo (by rw [hno (by omega) (by simp only [Int.toNat_natCast] at *; simp only [kchB, Bool.or_eq_false_iff, decide_eq_false_iff_not]; grind)])
    | trace_state
end
structure Lst where
  key : ByteArray
  number : Int
instance : Inhabited Lst := ⟨⟨⟨#[]⟩, 0⟩⟩
def Lst.cell (s : Lst) (j : Nat) : DD :=
  match j with
  | 0 => dS s.key
  | 1 => i64 s.number
  | _ => .opq
def encLst (s : Lst) : DD := .agg [dS s.key, i64 s.number]
def encLs (l : List Lst) : DD := .sl 2 24 l.length (fun i j => (l.getD i default).cell j)
def lstOf (p : ByteArray) : Lst := if keyOkB p = true then ⟨p, 0⟩ else ⟨⟨#[]⟩, numN p⟩
/-- A digit's number, as the code reckons it; a number's first digits. -/
def dw (s : ByteArray) (k : Nat) : Int := IntKind.u8.wrap (((bAt s k).toNat : Int) - 48)
theorem dw_eq {s : ByteArray} {k : Nat} (h : digitB (bAt s k) = true) : dw s k = ((bAt s k).toNat : Int) - 48 := by
  have := digitB_iff.1 h
  unfold dw
  simp only [IntKind.wrap, IntKind.bits, IntKind.signed]
  simp
  omega
def nv (s : ByteArray) : Nat → Int
  | 0 => 0
  | k + 1 => 10 * nv s k + dw s k
theorem nv_bound {s : ByteArray} : ∀ (k : Nat), allN k (fun i => digitB (bAt s i)) = true → 0 ≤ nv s k ∧ nv s k < 10 ^ k
  | 0, _ => by simp [nv]
  | k + 1, h => by
    have h1 := allN_iff.1 h
    obtain ⟨h2, h3⟩ := nv_bound k (allN_iff.2 fun i hi => h1 i (by omega))
    have h4 := dw_eq (h1 k (by omega))
    have h5 := digitB_iff.1 (h1 k (by omega))
    rw [nv, Int.pow_succ]
    omega
theorem nv_small {s : ByteArray} {k : Nat} (h : allN k (fun i => digitB (bAt s i)) = true) (hk : k ≤ 4) : 0 ≤ nv s k ∧ nv s k < 10000 := by
  obtain ⟨h1, h2⟩ := nv_bound k h
  have : (10 : Int) ^ k ≤ 10 ^ 4 := by
    match k, hk with
    | 0, _ => decide
    | 1, _ => decide
    | 2, _ => decide
    | 3, _ => decide
    | 4, _ => decide
  omega
theorem nv_num {s : ByteArray} (h : digs s = true) (h1 : s.size ≤ 4) : nv s s.size = numN s := by
  unfold digs at h
  have hd := allN_iff.1 h
  cases s with | mk d =>
  cases d with | mk l =>
  match l, h1, hd with
  | [], _, _ => rfl
  | [a], _, hd =>
    have g0 : digitB a = true := hd 0 (by decide : 0 < 1)
    have e0 : dw ⟨#[a]⟩ 0 = (a.toNat : Int) - 48 := dw_eq (s := ⟨#[a]⟩) (k := 0) g0
    have f0 := digitB_iff.1 g0
    show 10 * 0 + dw ⟨#[a]⟩ 0 = _
    rw [e0]
    unfold numN
    simp only [Lib.parseUint10]
    repeat (first | rw [if_pos (by omega)] | rw [if_neg (by omega)])
    simp only
    omega
  | [a, b], _, hd =>
    have g0 : digitB a = true := hd 0 (by decide : 0 < 2)
    have g1 : digitB b = true := hd 1 (by decide : 1 < 2)
    have e0 : dw ⟨#[a, b]⟩ 0 = (a.toNat : Int) - 48 := dw_eq (s := ⟨#[a, b]⟩) (k := 0) g0
    have e1 : dw ⟨#[a, b]⟩ 1 = (b.toNat : Int) - 48 := dw_eq (s := ⟨#[a, b]⟩) (k := 1) g1
    have f0 := digitB_iff.1 g0
    have f1 := digitB_iff.1 g1
    show 10 * (10 * 0 + dw ⟨#[a, b]⟩ 0) + dw ⟨#[a, b]⟩ 1 = _
    rw [e0, e1]
    unfold numN
    simp only [Lib.parseUint10]
    repeat (first | rw [if_pos (by omega)] | rw [if_neg (by omega)])
    simp only
    omega
  | [a, b, c], _, hd =>
    have g0 : digitB a = true := hd 0 (by decide : 0 < 3)
    have g1 : digitB b = true := hd 1 (by decide : 1 < 3)
    have g2 : digitB c = true := hd 2 (by decide : 2 < 3)
    have e0 : dw ⟨#[a, b, c]⟩ 0 = (a.toNat : Int) - 48 := dw_eq (s := ⟨#[a, b, c]⟩) (k := 0) g0
    have e1 : dw ⟨#[a, b, c]⟩ 1 = (b.toNat : Int) - 48 := dw_eq (s := ⟨#[a, b, c]⟩) (k := 1) g1
    have e2 : dw ⟨#[a, b, c]⟩ 2 = (c.toNat : Int) - 48 := dw_eq (s := ⟨#[a, b, c]⟩) (k := 2) g2
    have f0 := digitB_iff.1 g0
    have f1 := digitB_iff.1 g1
    have f2 := digitB_iff.1 g2
    show 10 * (10 * (10 * 0 + dw ⟨#[a, b, c]⟩ 0) + dw ⟨#[a, b, c]⟩ 1) + dw ⟨#[a, b, c]⟩ 2 = _
    rw [e0, e1, e2]
    unfold numN
    simp only [Lib.parseUint10]
    repeat (first | rw [if_pos (by omega)] | rw [if_neg (by omega)])
    simp only
    omega
  | [a, b, c, e], _, hd =>
    have g0 : digitB a = true := hd 0 (by decide : 0 < 4)
    have g1 : digitB b = true := hd 1 (by decide : 1 < 4)
    have g2 : digitB c = true := hd 2 (by decide : 2 < 4)
    have g3 : digitB e = true := hd 3 (by decide : 3 < 4)
    have e0 : dw ⟨#[a, b, c, e]⟩ 0 = (a.toNat : Int) - 48 := dw_eq (s := ⟨#[a, b, c, e]⟩) (k := 0) g0
    have e1 : dw ⟨#[a, b, c, e]⟩ 1 = (b.toNat : Int) - 48 := dw_eq (s := ⟨#[a, b, c, e]⟩) (k := 1) g1
    have e2 : dw ⟨#[a, b, c, e]⟩ 2 = (c.toNat : Int) - 48 := dw_eq (s := ⟨#[a, b, c, e]⟩) (k := 2) g2
    have e3 : dw ⟨#[a, b, c, e]⟩ 3 = (e.toNat : Int) - 48 := dw_eq (s := ⟨#[a, b, c, e]⟩) (k := 3) g3
    have f0 := digitB_iff.1 g0
    have f1 := digitB_iff.1 g1
    have f2 := digitB_iff.1 g2
    have f3 := digitB_iff.1 g3
    show 10 * (10 * (10 * (10 * 0 + dw ⟨#[a, b, c, e]⟩ 0) + dw ⟨#[a, b, c, e]⟩ 1) + dw ⟨#[a, b, c, e]⟩ 2) + dw ⟨#[a, b, c, e]⟩ 3 = _
    rw [e0, e1, e2, e3]
    unfold numN
    simp only [Lib.parseUint10]
    repeat (first | rw [if_pos (by omega)] | rw [if_neg (by omega)])
    simp only
    omega
/-- One step of the scan. -/
theorem scan_step {s : ByteArray} {f i : Nat} (hi : i ≤ s.size) (h : i < s.size → bAt s i = 46) : scan s f i = s.extract f i :: (if i + 1 ≤ s.size then scan s (i + 1) (i + 1) else []) := by
  rcases Nat.lt_or_ge i s.size with h1 | h1
  · rw [scan_dot h1 (h h1), if_pos (by omega)]
  · rw [scan_end (by omega), if_neg (by omega), show i = s.size by omega]
section
variable (E : Env)
theorem row_lst (f : Nat → Lst) (k i j : Nat) (c : Lst) (hc : f k = c) (hi : i < k + 1) (hj : j < 2) : Dle (cx Tryz.prog mixed tyT_ok E) (if i < k then (f i).cell j else ([dS c.key, i64 c.number] : List DD).getD ((i - k + 0) * 2 + j) .opq) ((f i).cell j) :=
  row_one (X := (cx Tryz.prog mixed tyT_ok E)) (f := fun i j => (f i).cell j) (g := fun i j => (f i).cell j) (fun _ _ _ _ => Dle.refl _ _) (fun j hj => by
    show Dle _ _ ((f k).cell j)
    rw [hc]
    match j, hj with
    | 0, _ => exact Dle.refl _ _
    | 1, _ => exact Dle.refl _ _) i j hi hj
end
theorem drop_head {α : Type} {l r : List α} {n : Nat} {p d : α} (h : l.drop n = p :: r) : n < l.length ∧ l.getD n d = p ∧ l.drop (n + 1) = r := by
  have hn : n < l.length := by
    rcases Nat.lt_or_ge n l.length with h1 | h1
    · exact h1
    · rw [List.drop_of_length_le h1] at h; cases h
  rw [drop_cons l d n hn] at h
  injection h with h1 h2
  exact ⟨hn, h1, h2⟩
theorem dot_nat {b : UInt8} : b = 46 ↔ b.toNat = 46 := ⟨fun h => by rw [h]; rfl, fun h => UInt8.toNat_inj.1 h⟩
theorem lst_key {p : ByteArray} (h : keyOkB p = true) : lstOf p = ⟨p, 0⟩ := if_pos h
theorem lst_num {p : ByteArray} (h : keyOkB p = false) : lstOf p = ⟨⟨#[]⟩, numN p⟩ := if_neg (by rw [h]; decide)
theorem no_idx1 {p : ByteArray} {k : Nat} (hk : k < p.size) (h : digitB (bAt p k) = false) : indexB p = false := by
  unfold indexB digs
  rw [allN_no hk h]
  simp
theorem no_idx2 {p : ByteArray} (h : 4 < p.size) : indexB p = false := by
  unfold indexB
  rw [decide_eq_false (p := p.size ≤ 4) (by omega)]
  simp
theorem no_idx3 {p : ByteArray} (h : p = ⟨#[]⟩) : indexB p = false := by subst h; unfold indexB; rfl
theorem no_idx4 {p : ByteArray} (h : (bAt p 0).toNat = 48) (h2 : ¬ p = ⟨#[48]⟩) : indexB p = false := by
  have h3 : bAt p 0 = 48 := UInt8.toNat_inj.1 h
  unfold indexB
  rw [decide_eq_true h3, decide_eq_false h2]
  simp
theorem yes_idx {p : ByteArray} (h0 : 0 < p.size) (h4 : p.size ≤ 4) (hd : allN p.size (fun k => digitB (bAt p k)) = true) (h : ¬ ((bAt p 0).toNat = 48 ∧ ¬ p = ⟨#[48]⟩)) : indexB p = true := by
  unfold indexB digs
  rw [hd, decide_eq_true h0, decide_eq_true h4]
  by_cases h5 : p = ⟨#[48]⟩
  · rw [decide_eq_true h5]; simp
  · rw [decide_eq_false (p := bAt p 0 = 48) (fun h6 => h ⟨by rw [h6]; rfl, h5⟩)]; simp
theorem dw_range (s : ByteArray) (k : Nat) : 0 ≤ dw s k ∧ dw s k < 256 := by
  unfold dw
  simp only [IntKind.wrap, IntKind.bits, IntKind.signed]
  simp
  omega
section
variable (E : Env)
set_option maxRecDepth 100000
set_option maxHeartbeats 4000000 in
theorem lSteps_sp (s : ByteArray) (hs : s.size ≤ 1000000000) : Sp (cx Tryz.prog mixed tyT_ok E) 214 [dS s] (.tup [encLs (if routeOk false s = true then (partsR s).map lstOf else []), dB (routeOk false s)]) := by
  have hlen := pcs_len_le s
  refine Sp.body Tryz.func214 (by kernel_rfl) rfl (by kernel_rfl) (by kernel_rfl) (by kernel_rfl) ?_
  repeat' first
    | (refine facW_intro ?_; intro _)
    | refine Or.inl ?_
    | ((conv => whnf); first | (refine condW_dec ?_ ?_ <;> intro _) | refine condW_not ?_ | (refine condW_bool ?_ ?_ <;> intro _) | (refine nbC_t (fun _ => ?_) ?_) | (refine nbC_f ?_ (fun _ => ?_)))
    | refine And.intro (by first | omega | (simp only [Int.toNat_natCast] at *; omega) | (simp only [Nat.reduceAdd, Int.cast_ofNat_Int, true_and, and_true]; omega)  | kernel_rfl) ?_
    | refine RegW.run ?_
    | fail
  · rename_i h
    rw [routeOk_long h]
    exact Dle.tup (X := (cx Tryz.prog mixed tyT_ok E)) ⟨Dle.nil, Dle.refl _ _, trivial⟩
  · rename_i h
    rw [(routeOk_nil (stars := false) h).1, (routeOk_nil (stars := false) h).2]
    exact Dle.tup (X := (cx Tryz.prog mixed tyT_ok E)) ⟨Dle.nil, Dle.refl _ _, trivial⟩
  · rename_i ha hb
    rw [(routeOk_all (stars := false) ha hb).1, (routeOk_all (stars := false) ha hb).2]
    have hsc := scan_all s
    generalize pcs s ⟨#[46]⟩ = ps at hsc hlen
    refine ⟨Nat × Nat × Nat, fun k => [(5, i64 k.1), (6, i64 k.2.1), (4, .own 15 2 0 k.2.2)], fun k => [], [], fun k => [(15, 259, k.2.2, fun i j => (lstOf (ps.getD i ⟨#[]⟩)).cell j)], fun k => k.1 ≤ k.2.1 ∧ k.2.1 ≤ s.size + 1 ∧ k.2.2 ≤ ps.length ∧ allN k.2.2 (fun i => partOk false (ps.getD i ⟨#[]⟩)) = true ∧ ps.drop k.2.2 = (if k.2.1 ≤ s.size then scan s k.1 k.2.1 else []), fun k => s.size + 1 - k.2.1, ⟨(0, 0, 0), ⟨Nat.le_refl _, Nat.zero_le _, Nat.zero_le _, rfl, by rw [if_pos (Nat.zero_le _), hsc]; rfl⟩, ⟨[(15, none)], ⟨by kernel_rfl, by kernel_rfl, by kernel_rfl, by kernel_rfl, by kernel_rfl, by kernel_rfl, by kernel_rfl⟩, (by repeat' first | exact trivial | exact rfl | kernel_rfl | exact Dle.of_eq rfl | exact MLe.of_eq rfl | exact Dle.i (by omega) | exact Dle.i (by simp only [Int.toNat_natCast] at *; omega) | exact Dle.nil | exact Dle.rc Dle.nil | exact Option.some_ne_none _ | exact Or.inl rfl | exact Or.inr trivial | omega | (simp only [Int.toNat_natCast] at *; omega) | (intro _ _ _ _; exact Dle.of_eq rfl) | refine And.intro ?_ ?_)⟩⟩, fun k hk => ?_⟩
    obtain ⟨h1, h2, h3, h4, h5⟩ := hk
    by_cases hle : k.2.1 ≤ s.size
    · rw [if_pos hle] at h5
      by_cases hd : k.2.1 < s.size ∧ ¬ (bAt s k.2.1).toNat = 46
      · have hx : ps.drop k.2.2 = (if k.2.1 + 1 ≤ s.size then scan s k.1 (k.2.1 + 1) else []) := by rw [if_pos (by omega), h5, scan_next hd.1 (fun h => hd.2 (dot_nat.1 h))]
        obtain ⟨hd1, hd2⟩ := hd
        have hd2 : ¬ ((bAt s ((k.2.1 : Int)).toNat).toNat : Int) = 46 := fun h => hd2 (by have h : ((bAt s k.2.1).toNat : Int) = 46 := h; omega)
        repeat' first
          | (refine facW_intro ?_; intro _)
          | refine Or.inl ?_
          | ((conv => whnf); first | (refine condW_dec ?_ ?_ <;> intro _ <;> try (exfalso; omega)) | refine condW_not ?_ | (refine condW_bool ?_ ?_ <;> intro _ <;> try (exfalso; omega)) | (refine nbC_t (fun _ => ?_) ?_) | (refine nbC_f ?_ (fun _ => ?_)))
          | refine And.intro (by first | omega | (simp only [Int.toNat_natCast] at *; omega) | (simp only [Nat.reduceAdd, Int.cast_ofNat_Int, true_and, and_true]; omega)  | kernel_rfl) ?_
          | refine RegW.run ?_
          | fail
        exact ⟨(k.1, k.2.1 + 1, k.2.2), ⟨by dsimp only; omega, by dsimp only; omega, h3, h4, hx⟩, ⟨[(15, some 15)], ⟨by kernel_rfl, by kernel_rfl, by kernel_rfl, by kernel_rfl, by kernel_rfl, by kernel_rfl, by kernel_rfl⟩, (by repeat' first | exact trivial | exact rfl | kernel_rfl | exact Dle.of_eq rfl | exact MLe.of_eq rfl | exact Dle.i (by omega) | exact Dle.i (by simp only [Int.toNat_natCast] at *; omega) | exact Dle.nil | exact Dle.rc Dle.nil | exact Option.some_ne_none _ | exact Or.inl rfl | exact Or.inr trivial | omega | (simp only [Int.toNat_natCast] at *; omega) | (intro _ _ _ _; exact Dle.of_eq rfl) | refine And.intro ?_ ?_)⟩, by first | omega | (dsimp only; omega)⟩
      · have hd : k.2.1 < s.size → bAt s k.2.1 = 46 := fun h => Classical.byContradiction fun h2 => hd ⟨h, fun h3 => h2 (dot_nat.2 h3)⟩
        have hd' : k.2.1 < s.size → ((bAt s ((k.2.1 : Int)).toNat).toNat : Int) = 46 := fun h => by
          have := dot_nat.1 (hd h)
          show ((bAt s k.2.1).toNat : Int) = 46
          omega
        rw [scan_step hle hd] at h5
        obtain ⟨h6, h7, h8⟩ := drop_head (d := ⟨#[]⟩) h5
        have hp : (s.extract (k.1 : Int).toNat (k.2.1 : Int).toNat).size ≤ s.size := by rw [ByteArray.size_extract]; omega
        have h7 : ps.getD k.2.2 ⟨#[]⟩ = s.extract (k.1 : Int).toNat (k.2.1 : Int).toNat := h7
        repeat' first
          | (refine facW_intro ?_; intro _)
          | refine Or.inl ?_
          | ((conv => whnf); first | (refine condW_dec ?_ ?_ <;> intro _ <;> try (exfalso; omega)) | refine condW_not ?_ | (refine condW_bool ?_ ?_ <;> intro _ <;> try (exfalso; omega)) | (refine nbC_t (fun _ => ?_) ?_) | (refine nbC_f ?_ (fun _ => ?_)))
          | refine And.intro (by first | omega | (simp only [Int.toNat_natCast] at *; omega) | (simp only [Nat.reduceAdd, Int.cast_ofNat_Int, true_and, and_true]; omega)  | kernel_rfl) ?_
          | refine RegW.run ?_
          | refine ⟨_, l_isKey_sp E _, ?_⟩
          | fail
        all_goals generalize s.extract (k.1 : Int).toNat (k.2.1 : Int).toNat = p at *
        · rename_i hkey
          have hpk : partOk false (ps.getD k.2.2 ⟨#[]⟩) = true := by rw [h7]; exact key_part hkey
          have hst : lstOf (ps.getD k.2.2 ⟨#[]⟩) = ⟨p, 0⟩ := by rw [h7]; exact lst_key hkey
          exact ⟨(k.2.1 + 1, k.2.1 + 1, k.2.2 + 1), ⟨by dsimp only; omega, by dsimp only; omega, by dsimp only; omega, allN_succ h4 hpk, h8⟩, ⟨[(15, some 43)], ⟨by kernel_rfl, by kernel_rfl, by kernel_rfl, by kernel_rfl, by kernel_rfl, by kernel_rfl, by kernel_rfl⟩, (by repeat' first | exact trivial | exact rfl | kernel_rfl | exact Dle.of_eq rfl | exact MLe.of_eq rfl | exact Dle.i (by omega) | exact Dle.i (by simp only [Int.toNat_natCast] at *; omega) | exact Dle.nil | exact Dle.rc Dle.nil | exact Option.some_ne_none _ | exact Or.inl rfl | exact Or.inr trivial | omega | (simp only [Int.toNat_natCast] at *; omega) | (intro _ _ _ _; exact Dle.of_eq rfl) | (intro i j hi hj; exact row_lst E (fun i => lstOf (ps.getD i ⟨#[]⟩)) k.2.2 i j ⟨p, 0⟩ hst hi hj) | refine And.intro ?_ ?_)⟩, by first | omega | (dsimp only; omega)⟩
        · rename_i hkey
          refine ⟨Nat, fun q => [(9, i64 q), (8, i64 (nv p q))], fun q => [], [15], fun q => [], fun q => q ≤ p.size ∧ q ≤ 4 ∧ allN q (fun i => digitB (bAt p i)) = true, fun q => p.size - q, ⟨0, ⟨Nat.zero_le _, Nat.zero_le _, rfl⟩, ⟨[], ⟨by kernel_rfl, by kernel_rfl, by kernel_rfl, by kernel_rfl, by kernel_rfl, by kernel_rfl, by kernel_rfl⟩, (by repeat' first | exact trivial | exact rfl | kernel_rfl | exact Dle.of_eq rfl | exact MLe.of_eq rfl | exact Dle.i (by omega) | exact Dle.i (by simp only [Int.toNat_natCast] at *; omega) | exact Dle.nil | exact Dle.rc Dle.nil | exact Option.some_ne_none _ | exact Or.inl rfl | exact Or.inr trivial | omega | (simp only [Int.toNat_natCast] at *; omega) | (intro _ _ _ _; exact Dle.of_eq rfl) | refine And.intro ?_ ?_)⟩⟩, fun q hq => ?_⟩
          obtain ⟨g1, g2, g3⟩ := hq
          have v0 : IntKind.u8.wrap (((bAt p ((q : Int)).toNat).toNat : Int) - 48) = dw p q := rfl
          have v1 : nv p (q + 1) = 10 * nv p q + dw p q := rfl
          have v2 := nv_small g3 g2
          have v3 := dw_range p q
          have hno : indexB p = false → ps.all (partOk false) = false := fun h => all_no h6 (by rw [h7]; exact no_part hkey (.inl rfl) h)
          repeat' first
            | (refine facW_intro ?_; intro _)
            | refine Or.inl ?_
            | ((conv => whnf); first | (refine condW_dec ?_ ?_ <;> intro _ <;> try (exfalso; omega)) | refine condW_not ?_ | (refine condW_bool ?_ ?_ <;> intro _ <;> try (exfalso; omega)) | (refine nbC_t (fun _ => ?_) ?_) | (refine nbC_f ?_ (fun _ => ?_)))
            | refine And.intro (by first | omega | (simp only [Int.toNat_natCast] at *; omega) | (simp only [Nat.reduceAdd, Int.cast_ofNat_Int, true_and, and_true]; omega)  | kernel_rfl) ?_
            | refine RegW.run ?_
            | refine ⟨_, l_isDigit_sp E _, ?_⟩
            | fail
          all_goals try (have hp0 := str_pos (s := p) (by assumption))
          all_goals
            repeat' first
              | (refine facW_intro ?_; intro _)
              | refine Or.inl ?_
              | ((conv => whnf); first | (refine condW_dec ?_ ?_ <;> intro _ <;> try (exfalso; omega)) | refine condW_not ?_ | (refine condW_bool ?_ ?_ <;> intro _ <;> try (exfalso; omega)) | (refine nbC_t (fun _ => ?_) ?_) | (refine nbC_f ?_ (fun _ => ?_)))
              | refine And.intro (by first | omega | (simp only [Int.toNat_natCast] at *; omega) | (simp only [Nat.reduceAdd, Int.cast_ofNat_Int, true_and, and_true]; omega)  | kernel_rfl) ?_
              | refine RegW.run ?_
              | refine ⟨_, l_isDigit_sp E _, ?_⟩
              | fail
          all_goals first
            | (rename_i h9 h10
               exact ⟨q + 1, ⟨by omega, by omega, allN_succ g3 h9⟩, ⟨[], ⟨by kernel_rfl, by kernel_rfl, by kernel_rfl, by kernel_rfl, by kernel_rfl, by kernel_rfl, by kernel_rfl⟩, (by repeat' first | exact trivial | exact rfl | kernel_rfl | exact Dle.of_eq rfl | exact MLe.of_eq rfl | exact Dle.i (by omega) | exact Dle.i (by simp only [Int.toNat_natCast] at *; omega) | exact Dle.nil | exact Dle.rc Dle.nil | exact Option.some_ne_none _ | exact Or.inl rfl | exact Or.inr trivial | omega | (simp only [Int.toNat_natCast] at *; omega) | (intro _ _ _ _; exact Dle.of_eq rfl) | refine And.intro ?_ ?_)⟩, by first | omega | (dsimp only; omega)⟩)
            | (rw [hno (by first | exact no_idx3 (by assumption) | (exact no_idx1 (k := q) (by omega) (by assumption)) | exact no_idx2 (by omega) | exact no_idx4 (by simp only [Int.toNat_zero] at *; omega) (by assumption))]
               exact Dle.tup (X := (cx Tryz.prog mixed tyT_ok E)) ⟨Dle.nil, Dle.refl _ _, trivial⟩)
            | (have hq : q = p.size := by omega
               subst hq
               have hix : indexB p = true := yes_idx hp0 g2 g3 (by first | (rintro ⟨-, h2⟩; exact h2 (by assumption)) | (rintro ⟨h2, -⟩; simp only [Int.toNat_zero] at *; omega))
               have hpk : partOk false (ps.getD k.2.2 ⟨#[]⟩) = true := by rw [h7]; exact yes_part hix
               have hst : lstOf (ps.getD k.2.2 ⟨#[]⟩) = ⟨⟨#[]⟩, nv p p.size⟩ := by rw [h7, lst_num hkey, nv_num (idx_digs hix).1 (idx_digs hix).2]
               exact ⟨(k.2.1 + 1, k.2.1 + 1, k.2.2 + 1), ⟨by dsimp only; omega, by dsimp only; omega, by dsimp only; omega, allN_succ h4 hpk, h8⟩, ⟨[(15, some 82)], ⟨by kernel_rfl, by kernel_rfl, by kernel_rfl, by kernel_rfl, by kernel_rfl, by kernel_rfl, by kernel_rfl⟩, (by repeat' first | exact trivial | exact rfl | kernel_rfl | exact Dle.of_eq rfl | exact MLe.of_eq rfl | exact Dle.i (by omega) | exact Dle.i (by simp only [Int.toNat_natCast] at *; omega) | exact Dle.nil | exact Dle.rc Dle.nil | exact Option.some_ne_none _ | exact Or.inl rfl | exact Or.inr trivial | omega | (simp only [Int.toNat_natCast] at *; omega) | (intro _ _ _ _; exact Dle.of_eq rfl) | (intro i j hi hj; exact row_lst E (fun i => lstOf (ps.getD i ⟨#[]⟩)) k.2.2 i j ⟨⟨#[]⟩, nv p p.size⟩ hst hi hj) | refine And.intro ?_ ?_)⟩, by first | omega | (dsimp only; omega)⟩)
            | exfalso
          all_goals trace_state
        · rename_i hkey
          have hpk : partOk false (ps.getD k.2.2 ⟨#[]⟩) = true := by rw [h7]; exact key_part hkey
          have hst : lstOf (ps.getD k.2.2 ⟨#[]⟩) = ⟨p, 0⟩ := by rw [h7]; exact lst_key hkey
          exact ⟨(k.2.1 + 1, k.2.1 + 1, k.2.2 + 1), ⟨by dsimp only; omega, by dsimp only; omega, by dsimp only; omega, allN_succ h4 hpk, h8⟩, ⟨[(15, some 43)], ⟨by kernel_rfl, by kernel_rfl, by kernel_rfl, by kernel_rfl, by kernel_rfl, by kernel_rfl, by kernel_rfl⟩, (by repeat' first | exact trivial | exact rfl | kernel_rfl | exact Dle.of_eq rfl | exact MLe.of_eq rfl | exact Dle.i (by omega) | exact Dle.i (by simp only [Int.toNat_natCast] at *; omega) | exact Dle.nil | exact Dle.rc Dle.nil | exact Option.some_ne_none _ | exact Or.inl rfl | exact Or.inr trivial | omega | (simp only [Int.toNat_natCast] at *; omega) | (intro _ _ _ _; exact Dle.of_eq rfl) | (intro i j hi hj; exact row_lst E (fun i => lstOf (ps.getD i ⟨#[]⟩)) k.2.2 i j ⟨p, 0⟩ hst hi hj) | refine And.intro ?_ ?_)⟩, by first | omega | (dsimp only; omega)⟩
        · rename_i hkey
          refine ⟨Nat, fun q => [(9, i64 q), (8, i64 (nv p q))], fun q => [], [15], fun q => [], fun q => q ≤ p.size ∧ q ≤ 4 ∧ allN q (fun i => digitB (bAt p i)) = true, fun q => p.size - q, ⟨0, ⟨Nat.zero_le _, Nat.zero_le _, rfl⟩, ⟨[], ⟨by kernel_rfl, by kernel_rfl, by kernel_rfl, by kernel_rfl, by kernel_rfl, by kernel_rfl, by kernel_rfl⟩, (by repeat' first | exact trivial | exact rfl | kernel_rfl | exact Dle.of_eq rfl | exact MLe.of_eq rfl | exact Dle.i (by omega) | exact Dle.i (by simp only [Int.toNat_natCast] at *; omega) | exact Dle.nil | exact Dle.rc Dle.nil | exact Option.some_ne_none _ | exact Or.inl rfl | exact Or.inr trivial | omega | (simp only [Int.toNat_natCast] at *; omega) | (intro _ _ _ _; exact Dle.of_eq rfl) | refine And.intro ?_ ?_)⟩⟩, fun q hq => ?_⟩
          obtain ⟨g1, g2, g3⟩ := hq
          have v0 : IntKind.u8.wrap (((bAt p ((q : Int)).toNat).toNat : Int) - 48) = dw p q := rfl
          have v1 : nv p (q + 1) = 10 * nv p q + dw p q := rfl
          have v2 := nv_small g3 g2
          have v3 := dw_range p q
          have hno : indexB p = false → ps.all (partOk false) = false := fun h => all_no h6 (by rw [h7]; exact no_part hkey (.inl rfl) h)
          repeat' first
            | (refine facW_intro ?_; intro _)
            | refine Or.inl ?_
            | ((conv => whnf); first | (refine condW_dec ?_ ?_ <;> intro _ <;> try (exfalso; omega)) | refine condW_not ?_ | (refine condW_bool ?_ ?_ <;> intro _ <;> try (exfalso; omega)) | (refine nbC_t (fun _ => ?_) ?_) | (refine nbC_f ?_ (fun _ => ?_)))
            | refine And.intro (by first | omega | (simp only [Int.toNat_natCast] at *; omega) | (simp only [Nat.reduceAdd, Int.cast_ofNat_Int, true_and, and_true]; omega)  | kernel_rfl) ?_
            | refine RegW.run ?_
            | refine ⟨_, l_isDigit_sp E _, ?_⟩
            | fail
          all_goals try (have hp0 := str_pos (s := p) (by assumption))
          all_goals
            repeat' first
              | (refine facW_intro ?_; intro _)
              | refine Or.inl ?_
              | ((conv => whnf); first | (refine condW_dec ?_ ?_ <;> intro _ <;> try (exfalso; omega)) | refine condW_not ?_ | (refine condW_bool ?_ ?_ <;> intro _ <;> try (exfalso; omega)) | (refine nbC_t (fun _ => ?_) ?_) | (refine nbC_f ?_ (fun _ => ?_)))
              | refine And.intro (by first | omega | (simp only [Int.toNat_natCast] at *; omega) | (simp only [Nat.reduceAdd, Int.cast_ofNat_Int, true_and, and_true]; omega)  | kernel_rfl) ?_
              | refine RegW.run ?_
              | refine ⟨_, l_isDigit_sp E _, ?_⟩
              | fail
          all_goals first
            | (rename_i h9 h10
               exact ⟨q + 1, ⟨by omega, by omega, allN_succ g3 h9⟩, ⟨[], ⟨by kernel_rfl, by kernel_rfl, by kernel_rfl, by kernel_rfl, by kernel_rfl, by kernel_rfl, by kernel_rfl⟩, (by repeat' first | exact trivial | exact rfl | kernel_rfl | exact Dle.of_eq rfl | exact MLe.of_eq rfl | exact Dle.i (by omega) | exact Dle.i (by simp only [Int.toNat_natCast] at *; omega) | exact Dle.nil | exact Dle.rc Dle.nil | exact Option.some_ne_none _ | exact Or.inl rfl | exact Or.inr trivial | omega | (simp only [Int.toNat_natCast] at *; omega) | (intro _ _ _ _; exact Dle.of_eq rfl) | refine And.intro ?_ ?_)⟩, by first | omega | (dsimp only; omega)⟩)
            | (rw [hno (by first | exact no_idx3 (by assumption) | (exact no_idx1 (k := q) (by omega) (by assumption)) | exact no_idx2 (by omega) | exact no_idx4 (by simp only [Int.toNat_zero] at *; omega) (by assumption))]
               exact Dle.tup (X := (cx Tryz.prog mixed tyT_ok E)) ⟨Dle.nil, Dle.refl _ _, trivial⟩)
            | (have hq : q = p.size := by omega
               subst hq
               have hix : indexB p = true := yes_idx hp0 g2 g3 (by first | (rintro ⟨-, h2⟩; exact h2 (by assumption)) | (rintro ⟨h2, -⟩; simp only [Int.toNat_zero] at *; omega))
               have hpk : partOk false (ps.getD k.2.2 ⟨#[]⟩) = true := by rw [h7]; exact yes_part hix
               have hst : lstOf (ps.getD k.2.2 ⟨#[]⟩) = ⟨⟨#[]⟩, nv p p.size⟩ := by rw [h7, lst_num hkey, nv_num (idx_digs hix).1 (idx_digs hix).2]
               exact ⟨(k.2.1 + 1, k.2.1 + 1, k.2.2 + 1), ⟨by dsimp only; omega, by dsimp only; omega, by dsimp only; omega, allN_succ h4 hpk, h8⟩, ⟨[(15, some 82)], ⟨by kernel_rfl, by kernel_rfl, by kernel_rfl, by kernel_rfl, by kernel_rfl, by kernel_rfl, by kernel_rfl⟩, (by repeat' first | exact trivial | exact rfl | kernel_rfl | exact Dle.of_eq rfl | exact MLe.of_eq rfl | exact Dle.i (by omega) | exact Dle.i (by simp only [Int.toNat_natCast] at *; omega) | exact Dle.nil | exact Dle.rc Dle.nil | exact Option.some_ne_none _ | exact Or.inl rfl | exact Or.inr trivial | omega | (simp only [Int.toNat_natCast] at *; omega) | (intro _ _ _ _; exact Dle.of_eq rfl) | (intro i j hi hj; exact row_lst E (fun i => lstOf (ps.getD i ⟨#[]⟩)) k.2.2 i j ⟨⟨#[]⟩, nv p p.size⟩ hst hi hj) | refine And.intro ?_ ?_)⟩, by first | omega | (dsimp only; omega)⟩)
            | exfalso
          all_goals trace_state
    · have h9 : ps.drop k.2.2 = [] := by rw [h5, if_neg hle]
      have h9 : ps.length ≤ k.2.2 := List.drop_eq_nil_iff.1 h9
      rw [all_end h4 h9]
      repeat' first
        | (refine facW_intro ?_; intro _)
        | refine Or.inl ?_
        | ((conv => whnf); first | (refine condW_dec ?_ ?_ <;> intro _ <;> try (exfalso; omega)) | refine condW_not ?_ | (refine condW_bool ?_ ?_ <;> intro _ <;> try (exfalso; omega)) | (refine nbC_t (fun _ => ?_) ?_) | (refine nbC_f ?_ (fun _ => ?_)))
        | refine And.intro (by first | omega | (simp only [Int.toNat_natCast] at *; omega) | (simp only [Nat.reduceAdd, Int.cast_ofNat_Int, true_and, and_true]; omega)  | kernel_rfl) ?_
        | refine RegW.run ?_
        | fail
      exact Dle.tup (X := (cx Tryz.prog mixed tyT_ok E)) ⟨Dle.sl (X := (cx Tryz.prog mixed tyT_ok E)) (by simp; omega) (fun i j hi hj => Dle.of_eq (by simp [List.getD, show i < ps.length by omega])), Dle.refl _ _, trivial⟩
end
end Go.Proofs.YtemiaognopgnnaaGreatDoor
