/-
  conf.Compare and the reference's CompareOf. Sources of a tree: what a path says, by the program; sources as data. Sources of a tree: what is wrong with a source, with sources: data; the reference's SameOf with an empty table; bounds. Sources of a tree: what is wrong with a source, by the program and by the reference. Sources of a tree as an argument.
-/
import Derived.Test.YtdpbgpkjlbdbfaaGreatDoorU7
import Derived.Test.YtdpbgpkjlbdbfaaGreatDoorTs9
import Derived.Test.YtdpbgpkjlbdbfaaGreatDoorTsD
import Derived.Test.YtdpbgpkjlbdbfaaGreatDoorPV
namespace Go.Proofs.YtdpbgpkjlbdbfaaGreatDoor
open Go.RowKit
set_option linter.unusedVariables false
set_option linter.unusedSimpArgs false
theorem sgn_bit (a b : Bool) : sgn (bitI a) (bitI b) = if a = b then 0 else if b = true then -1 else 1 := by cases a <;> cases b <;> rfl
section
variable (E : Env)
set_option maxRecDepth 100000
set_option maxHeartbeats 4000000 in
theorem compareOf_sp : ∀ (N : Nat) (v w : Vu), SizeOf.sizeOf v < N → Sp (cx Tryz.prog mixed tyT_ok E) 68 [encV v, encV w] (i64 (cmpV v w))
  | 0, v, w, h => by omega
  | N + 1, v, w, h => by
    have ih := fun x y (hx : x ∈ v.items) => compareOf_sp N x y (by have := items_lt v x hx; omega)
    have hb := sgn_bit v.b w.b
    obtain ⟨r, hr⟩ : ∃ r, r = cmpV v w := ⟨_, rfl⟩
    rw [← hr]
    rw [cmpV_eq] at hr
    unfold cmpH at hr
    have c1 := cmpI_sp E v.kind w.kind
    have c2 := cmpI_sp E v.i w.i
    have c3 := strCmp_sp E v.text w.text
    have c4 := slCmp_sp E v.keys w.keys
    generalize sgn v.kind w.kind = a1 at hr c1
    generalize sgn (bitI v.b) (bitI w.b) = a2 at hr hb
    generalize sgn v.i w.i = a3 at hr c2
    generalize cmpS v.text w.text = a4 at hr c3
    generalize cmpK v.keys w.keys 0 = a5 at hr c4
    refine Sp.body Tryz.func68 (by kernel_rfl) rfl (by kernel_rfl) (by kernel_rfl) (by kernel_rfl) ?_
    repeat' first
      | (refine facW_intro ?_; intro _)
      | refine Or.inl ?_
      | ((conv => whnf); first | (refine condW_dec ?_ ?_ <;> intro _) | refine condW_not ?_ | (refine condW_bool ?_ ?_ <;> intro _) | (refine nbC_t (fun _ => ?_) ?_) | (refine nbC_f ?_ (fun _ => ?_)))
      | refine And.intro (by first | omega | (simp only [Int.toNat_natCast] at *; omega) | (simp only [Nat.reduceAdd, Int.cast_ofNat_Int, true_and, and_true]; omega) | kernel_rfl) ?_
      | refine RegW.run ?_
      | refine ⟨_, c1, ?_⟩
      | refine ⟨_, c2, ?_⟩
      | refine ⟨_, c3, ?_⟩
      | refine ⟨_, c4, ?_⟩
      | refine ⟨_, or3_sp E _ _ _, ?_⟩
      | fail
    all_goals first
      | exact Dle.i (by rw [hr]; grind)
      | skip
    all_goals
      have hr : r = cmpL v.items w.items := by rw [hr]; grind
      refine ⟨Nat, fun k => [(7, i64 k)], fun k => [], [2, 3], fun k => [], fun k => k ≤ v.items.length ∧ k ≤ w.items.length ∧ r = cmpL (v.items.drop k) (w.items.drop k), fun k => v.items.length - k, ⟨0, ⟨by omega, by omega, hr⟩, ⟨[], ⟨by kernel_rfl, by kernel_rfl, by kernel_rfl, by kernel_rfl, by kernel_rfl, by kernel_rfl, by kernel_rfl⟩, (by repeat' first | exact trivial | exact rfl | kernel_rfl | exact Dle.of_eq rfl | exact MLe.of_eq rfl | exact Dle.i (by omega) | exact Dle.i (by simp only [Int.toNat_natCast] at *; omega) | exact Dle.nil | exact Dle.rc Dle.nil | exact Option.some_ne_none _ | exact Or.inl rfl | exact Or.inr trivial | omega | (simp only [Int.toNat_natCast] at *; omega) | (intro _ _ _ _; exact Dle.of_eq rfl) | refine And.intro ?_ ?_)⟩⟩, fun k hk => ?_⟩
      obtain ⟨hk, hk2, hK⟩ := hk
      by_cases hlt : k < v.items.length ∧ k < w.items.length
      · obtain ⟨hl1, hl2⟩ := hlt
        rw [cmpL_drop hl1 hl2] at hK
        have hc := ih _ (w.items.getD k .zero) (getD_mem v.items .zero k hl1)
        generalize cmpV (v.items.getD k .zero) (w.items.getD k .zero) = e at hK hc
        repeat' first
          | (refine facW_intro ?_; intro _)
          | refine Or.inl ?_
          | ((conv => whnf); first | (refine condW_dec ?_ ?_ <;> intro _ <;> try (exfalso; omega)) | refine condW_not ?_ | (refine condW_bool ?_ ?_ <;> intro _ <;> try (exfalso; omega)) | (refine nbC_t (fun _ => ?_) ?_) | (refine nbC_f ?_ (fun _ => ?_)))
          | refine And.intro (by first | omega | (simp only [Int.toNat_natCast] at *; omega) | (simp only [Nat.reduceAdd, Int.cast_ofNat_Int, true_and, and_true]; omega) | kernel_rfl) ?_
          | refine RegW.run ?_
          | refine ⟨_, hc, ?_⟩
          | fail
        all_goals first
          | exact ⟨k + 1, ⟨by omega, by omega, by rw [hK]; grind⟩, ⟨[], ⟨by kernel_rfl, by kernel_rfl, by kernel_rfl, by kernel_rfl, by kernel_rfl, by kernel_rfl, by kernel_rfl⟩, (by repeat' first | exact trivial | exact rfl | kernel_rfl | exact Dle.of_eq rfl | exact MLe.of_eq rfl | exact Dle.i (by omega) | exact Dle.i (by simp only [Int.toNat_natCast] at *; omega) | exact Dle.nil | exact Dle.rc Dle.nil | exact Option.some_ne_none _ | exact Or.inl rfl | exact Or.inr trivial | omega | (simp only [Int.toNat_natCast] at *; omega) | (intro _ _ _ _; exact Dle.of_eq rfl) | refine And.intro ?_ ?_)⟩, by first | omega | (dsimp only; omega)⟩
          | exact Dle.i (by rw [hK]; grind)
          | trace_state
      · rw [cmpL_end hk hk2 hlt] at hK
        repeat' first
          | (refine facW_intro ?_; intro _)
          | refine Or.inl ?_
          | ((conv => whnf); first | (refine condW_dec ?_ ?_ <;> intro _ <;> try (exfalso; omega)) | refine condW_not ?_ | (refine condW_bool ?_ ?_ <;> intro _ <;> try (exfalso; omega)) | (refine nbC_t (fun _ => ?_) ?_) | (refine nbC_f ?_ (fun _ => ?_)))
          | refine And.intro (by first | omega | (simp only [Int.toNat_natCast] at *; omega) | (simp only [Nat.reduceAdd, Int.cast_ofNat_Int, true_and, and_true]; omega) | kernel_rfl) ?_
          | refine RegW.run ?_
          | refine ⟨_, cmpI_sp E _ _, ?_⟩
          | fail
        all_goals exact Dle.i (by rw [hK])
end
end Go.Proofs.YtdpbgpkjlbdbfaaGreatDoor
namespace Go.Proofs.YtdpbgpkjlbdbfaaGreatDoor
open Go.RowKit
set_option linter.unusedVariables false
set_option linter.unusedSimpArgs false
namespace ts
open rs
/-- tree.Source. -/
structure Src where
  path : ByteArray
  key : ByteArray
  lang : ByteArray
  kind : Int
  v : Vu
  rest : ByteArray
instance : Inhabited Src := ⟨⟨⟨#[]⟩, ⟨#[]⟩, ⟨#[]⟩, 0, .zero, ⟨#[]⟩⟩⟩
def Src.cell (s : Src) (j : Nat) : DD :=
  match j with
  | 0 => dS s.path
  | 1 => dS s.key
  | 2 => dS s.lang
  | 3 => i64 s.kind
  | 4 => i64 s.v.kind
  | 5 => dB s.v.b
  | 6 => i64 s.v.i
  | 7 => dS s.v.text
  | 8 => .rc (.vals s.v.items)
  | 9 => encStrs s.v.keys
  | 10 => dS s.rest
  | _ => .opq
def encSrc (s : Src) : DD := .agg [dS s.path, dS s.key, dS s.lang, i64 s.kind, i64 s.v.kind, dB s.v.b, i64 s.v.i, dS s.v.text, .rc (.vals s.v.items), encStrs s.v.keys, dS s.rest]
def encSrcs (l : List Src) : DD := .sl 11 160 l.length (fun i j => (l.getD i default).cell j)
theorem path_size {s : ByteArray} (h : pathB s = true) : s.size ≤ 200 := by
  rcases Nat.lt_or_ge 200 s.size with h1 | h1
  · rw [path_long (by omega)] at h
    cases h
  · exact h1
def idSrc (path : ByteArray) (r : Idn) : Src := ⟨path, r.key, r.lang, r.k, .zero, ⟨#[]⟩⟩
section
variable (E : Env)
set_option maxRecDepth 100000
set_option maxHeartbeats 4000000 in
theorem identity_sp (hML : ∀ w, E.G w → ML w) (path : ByteArray) (ls : List ByteArray) (hp : path.size ≤ 1000000) (h1 : 1 ≤ ls.length) (h8 : ls.length ≤ 8) : Sp (cx Tryz.prog mixed tyT_ok E) 91 [dS path, encStrs ls] (encSrc (idSrc path (idnR path ls))) := by
  have c1 := cutLast_sp E path (by unfold maxLen; omega)
  have s2 := lst_size path
  have c2 := split_sp E hML (lstP path) ⟨#[46]⟩ (by omega) (by decide)
  have hl := pcs_len (lstP path) ⟨#[46]⟩ (by decide)
  have hl2 := pcs_len_le (lstP path)
  rw [idn_eq]
  have hd := dir_size path
  have hq := @pcs_le (lstP path) ⟨#[46]⟩
  generalize Lib.countB (lstP path) ⟨#[46]⟩ = n at hl
  generalize pcs (lstP path) ⟨#[46]⟩ = P at c2 hl hl2 hq ⊢
  generalize dirP path = dir at c1 hd ⊢
  generalize lstP path = last at c1 c2 s2 hl2 hq
  obtain ⟨q, c3, hq3⟩ := position_sp E ls (P.getD 1 ⟨#[]⟩) (by omega)
  obtain ⟨r, hr⟩ : ∃ r, r = idP dir P ls := ⟨_, rfl⟩
  rw [← hr]
  have hz : (P.getD 0 ⟨#[]⟩).size ≤ 1000000 := by
    rcases Nat.lt_or_ge 0 P.length with h | h
    · have := hq (getD_mem P ⟨#[]⟩ 0 h)
      omega
    · omega
  have hz2 : (P.getD (Int.toNat 0) ⟨#[]⟩).size ≤ 1000000 := hz
  have hx1 : (dir ++ (⟨#[47]⟩ : ByteArray)).size = dir.size + 1 := by rw [ByteArray.size_append]; rfl
  have hz3 : (⟨#[47]⟩ : ByteArray).size = 1 := rfl
  have eN : ((P.length : Int) - 1).toNat = P.length - 1 := by omega
  have e0 : Int.toNat 0 = 0 := rfl
  have e1 : Int.toNat 1 = 1 := rfl
  unfold idP kindP at hr
  rw [← eN] at hr
  have hib : inK ls ls.length (P.getD 1 ⟨#[]⟩) = decide (0 ≤ q) := by rw [Bool.eq_iff_iff, ← hq3]; simp
  have hA : (P.length < 2) = ((P.length : Int) < 2) := propext (by omega)
  have hB : (3 < P.length) = ((3 : Int) < P.length) := propext (by omega)
  have hC : (P.length = 3) = ((P.length : Int) = 3) := propext (by omega)
  simp only [hib, hA, hB, hC] at hr
  clear hA hB hC
  clear hib hq3
  unfold encSrc idSrc
  refine Sp.body Tryz.func91 (by kernel_rfl) rfl (by kernel_rfl) (by kernel_rfl) (by kernel_rfl) ?_
  repeat' first
    | (refine codeW_cond rfl ?_; first | (refine condW_dec ?_ ?_ <;> intro _ <;> try (exfalso; omega)) | refine condW_not ?_ | (refine condW_bool ?_ ?_ <;> intro _ <;> try (exfalso; omega)))
    | (refine facW_intro ?_; intro _)
    | refine Or.inl ?_
    | ((conv => whnf); first | (refine condW_dec ?_ ?_ <;> intro _ <;> try (exfalso; omega)) | refine condW_not ?_ | (refine condW_bool ?_ ?_ <;> intro _ <;> try (exfalso; omega)) | (refine nbC_t (fun _ => ?_) ?_) | (refine nbC_f ?_ (fun _ => ?_)))
    | refine And.intro (by first | omega | (simp only [Int.toNat_natCast] at *; omega) | (simp only [Nat.reduceAdd, Int.cast_ofNat_Int, true_and, and_true]; omega) | kernel_rfl) ?_
    | refine RegW.run ?_
    | refine ⟨_, c1, ?_⟩
    | refine ⟨_, c2, ?_⟩
    | refine ⟨_, c3, ?_⟩
    | fail
  all_goals clear c1 c2 c3 hq
  all_goals first
    | (exfalso; omega)
    | skip
  all_goals refine Dle.agg (X := (cx Tryz.prog mixed tyT_ok E)) ⟨Dle.refl _ _, Dle.of_eq (congrArg dS ?_), Dle.of_eq (congrArg dS ?_), Dle.of_eq (congrArg i64 ?_), Dle.refl _ _, Dle.refl _ _, Dle.refl _ _, Dle.refl _ _, Dle.rc (X := (cx Tryz.prog mixed tyT_ok E)) Dle.nil, Dle.nil, Dle.refl _ _, trivial⟩
  all_goals clear s2 hl2 hz hz2 hx1 hz3 eN hd hl hp h1 h8
  all_goals (show _ = _; dsimp only; simp only [Int.toNat_zero, Int.toNat_one] at *)
  all_goals first
    | (rw [hr]; clear hr; simp_all [idNo]; done)
    | (rw [hr]; clear hr; grind [idNo])
    | trace_state
end
end ts
end Go.Proofs.YtdpbgpkjlbdbfaaGreatDoor
namespace Go.Proofs.YtdpbgpkjlbdbfaaGreatDoor
open Go.RowKit
set_option linter.unusedVariables false
set_option linter.unusedSimpArgs false
namespace ts
open rs
def emptyT : Vu := .mk 6 false 0 ⟨#[]⟩ [] []
def emptyB (v : Vu) : Bool := decide (v.kind = 6) && !v.b && decide (v.i = 0) && decide (v.text = ⟨#[]⟩) && decide (v.keys.length = 0) && decide (v.items.length = 0)
theorem nilS (l : List UInt8) : Lib.compareBytes l [] = 0 ↔ l = [] := by cases l <;> simp [Lib.compareBytes]
theorem cmp_empty (v : Vu) : cmpV v emptyT = 0 ↔ emptyB v = true := by
  rw [cmpV_eq]
  unfold cmpH
  have e1 : sgn v.kind emptyT.kind = 0 ↔ v.kind = 6 := by show sgn v.kind 6 = 0 ↔ _; unfold sgn; split <;> (try split) <;> omega
  have e2 : sgn (bitI v.b) (bitI emptyT.b) = 0 ↔ v.b = false := by show sgn (bitI v.b) 0 = 0 ↔ _; cases v.b <;> simp [sgn, bitI]
  have e3 : sgn v.i emptyT.i = 0 ↔ v.i = 0 := by show sgn v.i 0 = 0 ↔ _; unfold sgn; split <;> (try split) <;> omega
  have e4 : cmpS v.text emptyT.text = 0 ↔ v.text = ⟨#[]⟩ := by
    show Lib.compareBytes v.text.data.toList [] = 0 ↔ _
    rw [nilS]
    cases v.text with | mk d => cases d with | mk l => simp
  have e5 : cmpK v.keys emptyT.keys 0 = 0 ↔ v.keys.length = 0 := by
    rw [cmpK_end (fun h => by exact absurd h.2 (Nat.not_lt_zero _))]
    show sgn v.keys.length 0 = 0 ↔ _
    unfold sgn
    split <;> (try split) <;> omega
  have e6 : cmpL v.items emptyT.items = 0 ↔ v.items.length = 0 := by
    show cmpL v.items [] = 0 ↔ _
    cases v.items <;> simp [cmpL]
  have hb : emptyB v = true ↔ v.kind = 6 ∧ v.b = false ∧ v.i = 0 ∧ v.text = ⟨#[]⟩ ∧ v.keys.length = 0 ∧ v.items.length = 0 := by
    unfold emptyB
    simp [and_assoc]
  rw [hb]
  grind
theorem cntB_le (p : ByteArray) : 0 ≤ cntB p ∧ cntB p ≤ p.size := by
  have h := List.count_le_length (a := (47 : UInt8)) (l := p.data.toList)
  have hl : p.data.toList.length = p.size := by simp
  unfold cntB Lib.countByte
  omega
/-- What is wrong with a value that is a source's settings. -/
def tailE (s : Src) : Int := if ¬ checkE s.v = 0 then checkE s.v else if ¬ s.v.kind = 6 then 10 else setE s.v s.kind s.key
/-- What is wrong with a source by itself. -/
def srcE (s : Src) (ls : List ByteArray) : Int :=
  if ¬ (idnR s.path ls).k = s.kind ∨ ¬ (idnR s.path ls).lang = s.lang then 1
  else if s.kind = 3 then (if pathB s.key = false ∨ underB s.path s.key = false ∨ emptyB s.v = false then 1 else tailE s)
  else if ¬ s.key = (idnR s.path ls).key then 1 else tailE s
/-- What is wrong with source i. -/
def oneE (l : List Src) (i : Nat) (ls : List ByteArray) : Int :=
  if pathB (l.getD i default).path = false then 3
  else if 12 < cntB (l.getD i default).path + 1 then 13
  else if 0 < i ∧ (strLt (l.getD i default).path (l.getD (i - 1) default).path || decide ((l.getD i default).path = (l.getD (i - 1) default).path)) = true then 5
  else srcE (l.getD i default) ls
structure Flt where
  path : ByteArray
  e : Int
def encFlt (f : Flt) : DD := .agg [dS f.path, i64 0, i64 0, i64 f.e]
/-- The first source that is wrong, from one on. -/
def firstE (l : List Src) (ls : List ByteArray) (k : Nat) : Flt := if k < l.length then (if oneE l k ls = 0 then firstE l ls (k + 1) else ⟨(l.getD k default).path, oneE l k ls⟩) else ⟨⟨#[]⟩, 0⟩
  termination_by l.length - k
theorem firstE_end {l : List Src} {ls : List ByteArray} {k : Nat} (h : ¬ k < l.length) : firstE l ls k = ⟨⟨#[]⟩, 0⟩ := by rw [firstE, if_neg h]
theorem firstE_next {l : List Src} {ls : List ByteArray} {k : Nat} (h : k < l.length) (h2 : oneE l k ls = 0) : firstE l ls k = firstE l ls (k + 1) := by rw [firstE, if_pos h, if_pos h2]
theorem firstE_at {l : List Src} {ls : List ByteArray} {k : Nat} (h : k < l.length) (h2 : ¬ oneE l k ls = 0) : firstE l ls k = ⟨(l.getD k default).path, oneE l k ls⟩ := by rw [firstE, if_pos h, if_neg h2]
def sourcesE (l : List Src) (ls : List ByteArray) : Flt := if langOK ls = false then ⟨⟨#[]⟩, 12⟩ else if 120 < l.length then ⟨⟨#[]⟩, 4⟩ else firstE l ls 0
section
variable (E : Env)
set_option maxRecDepth 100000
theorem sameEmpty_sp (v : Vu) : Sp (cx Tryz.prog mixed tyT_ok E) 18 [encV v, .agg [i64 6, dB false, i64 0, dS ⟨#[]⟩, .v (.slice none 0 0), .v (.slice none 0 0)]] (dB (emptyB v)) := by
  have h1 := compareOf_sp E _ v emptyT (Nat.lt_succ_self _)
  have he : emptyB v = decide (cmpV v emptyT = 0) := by rw [Bool.eq_iff_iff]; simp [cmp_empty]
  rw [he]
  generalize cmpV v emptyT = r at h1
  have h0 : Sp (cx Tryz.prog mixed tyT_ok E) 18 [encV v, encV emptyT] (dB (decide (r = 0))) := by
    refine Sp.body Tryz.func18 (by kernel_rfl) rfl (by kernel_rfl) (by kernel_rfl) (by kernel_rfl) ?_
    repeat' first
      | (refine codeW_cond rfl ?_; first | (refine condW_dec ?_ ?_ <;> intro _ <;> try (exfalso; omega)) | refine condW_not ?_ | (refine condW_bool ?_ ?_ <;> intro _ <;> try (exfalso; omega)))
      | (refine facW_intro ?_; intro _)
      | refine Or.inl ?_
      | ((conv => whnf); first | (refine condW_dec ?_ ?_ <;> intro _) | refine condW_not ?_ | (refine condW_bool ?_ ?_ <;> intro _) | (refine nbC_t (fun _ => ?_) ?_) | (refine nbC_f ?_ (fun _ => ?_)))
      | refine And.intro (by first | omega | (simp only [Int.toNat_natCast] at *; omega) | (simp only [Nat.reduceAdd, Int.cast_ofNat_Int, true_and, and_true]; omega) | kernel_rfl) ?_
      | refine RegW.run ?_
      | refine ⟨_, h1, ?_⟩
      | fail
    all_goals exact Dle.refl _ _
  exact h0.args ⟨Dle.refl _ _, Dle.agg ⟨Dle.refl _ _, Dle.refl _ _, Dle.refl _ _, Dle.refl _ _, Dle.rc (X := (cx Tryz.prog mixed tyT_ok E)) Dle.nil, Dle.nil (X := (cx Tryz.prog mixed tyT_ok E)), trivial⟩, trivial⟩
theorem emptyTable_sp (v : Vu) : Sp (cx Tryz.prog mixed tyT_ok E) 93 [encV v] (dB (emptyB v)) := by
  obtain ⟨r, hr⟩ : ∃ r, r = emptyB v := ⟨_, rfl⟩
  rw [← hr]
  unfold emptyB at hr
  refine Sp.body Tryz.func93 (by kernel_rfl) rfl (by kernel_rfl) (by kernel_rfl) (by kernel_rfl) ?_
  repeat' first
    | (refine codeW_cond rfl ?_; first | (refine condW_dec ?_ ?_ <;> intro _ <;> try (exfalso; omega)) | refine condW_not ?_ | (refine condW_bool ?_ ?_ <;> intro _ <;> try (exfalso; omega)))
    | (refine facW_intro ?_; intro _)
    | refine Or.inl ?_
    | ((conv => whnf); first | (refine condW_dec ?_ ?_ <;> intro _ <;> try (exfalso; omega)) | refine condW_not ?_ | (refine condW_bool ?_ ?_ <;> intro _ <;> try (exfalso; omega)) | (refine nbC_t (fun _ => ?_) ?_) | (refine nbC_f ?_ (fun _ => ?_)))
    | refine And.intro (by first | omega | (simp only [Int.toNat_natCast] at *; omega) | (simp only [Nat.reduceAdd, Int.cast_ofNat_Int, true_and, and_true]; omega) | kernel_rfl) ?_
    | refine RegW.run ?_
    | fail
  all_goals first
    | exact Dle.bo (by rw [hr]; simp_all; done)
    | exact Dle.bo (by rw [hr]; simp_all; omega)
    | trace_state
end
end ts
end Go.Proofs.YtdpbgpkjlbdbfaaGreatDoor
namespace Go.Proofs.YtdpbgpkjlbdbfaaGreatDoor
open Go.RowKit
set_option linter.unusedVariables false
set_option linter.unusedSimpArgs false
namespace ts
open rs
theorem path_ne {s : ByteArray} (h : pathB s = true) : ¬ s = ⟨#[]⟩ := by
  rintro rfl
  rw [path_all (by decide), pcs_lns 47 _ _ (Nat.lt_succ_self _)] at h
  simp only [lns, List.map_cons, List.map_nil, List.all_cons, List.all_nil, Bool.and_true] at h
  rw [ppart_no (.inl (by rfl))] at h
  cases h
theorem empty_kind {v : Vu} (h : emptyB v = true) : v.kind = 6 := by
  unfold emptyB at h
  simp only [Bool.and_eq_true, decide_eq_true_eq] at h
  exact h.1.1.1.1.1
section
variable (E : Env)
set_option maxRecDepth 100000
set_option maxHeartbeats 8000000 in
theorem t_source_sp (hML : ∀ w, E.G w → ML w) (s : Src) (ls : List ByteArray) (hp : pathB s.path = true) (h1 : 1 ≤ ls.length) (h8 : ls.length ≤ 8) (hw : s.v.wt ≤ 100000000) :
    Sp (cx Tryz.prog mixed tyT_ok E) 38 [encSrc s, encStrs ls] (i64 (srcE s ls)) := by
  have c1 := identity_sp E hML s.path ls (by have := path_size hp; omega) h1 h8
  obtain ⟨r, hr⟩ : ∃ r, r = srcE s ls := ⟨_, rfl⟩
  rw [← hr]
  unfold srcE tailE at hr
  generalize idnR s.path ls = d at c1 hr
  have c2 := t_isPath_sp E hML s.key
  have c3 : pathB s.key = true → Sp (cx Tryz.prog mixed tyT_ok E) 92 [dS s.path, dS s.key] (dB (underB s.path s.key)) := fun h => by
    have h2 := below_sp E s.path s.key (by have := path_size h; omega)
    rwa [decide_eq_false (path_ne h), Bool.false_or] at h2
  have c4 := emptyTable_sp E s.v
  have c5 := check_sp E s.v (by have := cnt_le_wt s.v; omega)
  have c6 : checkE s.v = 0 → s.v.kind = 6 → Sp (cx Tryz.prog mixed tyT_ok E) 94 [encSrc s] (i64 (setE s.v s.kind s.key)) := fun g1 g2 => t_settings_sp E hML s.path s.key s.lang s.rest s.kind s.v (check_ok g1) g2 hw
  generalize pathB s.key = pb at *
  generalize underB s.path s.key = ub at *
  generalize emptyB s.v = eb at *
  generalize checkE s.v = ce at *
  generalize setE s.v s.kind s.key = se at *
  refine Sp.body Tryz.func38 (by kernel_rfl) rfl (by kernel_rfl) (by kernel_rfl) (by kernel_rfl) ?_
  repeat' first
    | (refine codeW_cond rfl ?_; first | (refine condW_dec ?_ ?_ <;> intro _ <;> try (exfalso; omega)) | refine condW_not ?_ | (refine condW_bool ?_ ?_ <;> intro _ <;> try (exfalso; omega)))
    | (refine facW_intro ?_; intro _)
    | refine Or.inl ?_
    | ((conv => whnf); first | (refine condW_dec ?_ ?_ <;> intro _ <;> try (exfalso; omega)) | refine condW_not ?_ | (refine condW_bool ?_ ?_ <;> intro _ <;> try (exfalso; omega)) | (refine nbC_t (fun _ => ?_) ?_) | (refine nbC_f ?_ (fun _ => ?_)))
    | refine And.intro (by first | omega | (simp only [Int.toNat_natCast] at *; omega) | (simp only [Nat.reduceAdd, Int.cast_ofNat_Int, true_and, and_true]; omega) | kernel_rfl) ?_
    | refine RegW.run ?_
    | refine ⟨_, c1, ?_⟩
    | refine ⟨_, c2, ?_⟩
    | refine ⟨_, c3 (by assumption), ?_⟩
    | refine ⟨_, c4, ?_⟩
    | refine ⟨_, c5, ?_⟩
    | refine ⟨_, c6 (by assumption) (by assumption), ?_⟩
    | fail
  all_goals clear c1 c2 c3 c4 c5 c6
  all_goals first
    | (refine Dle.i ?_; rw [hr]; clear hr; grind [idSrc])
    | trace_state
set_option maxHeartbeats 8000000 in
theorem r_source_sp (hML : ∀ w, E.G w → ML w) (b : Nat) (E0 : Env) (hg : ∀ w, E0.G w → ∀ g, Rep view E0.MG w b0 (kindsGv b g) (.pointer (some ⟨g, 0, none⟩))) (hE : E = kEnv E0 b hg) (hm : ∃ es, GMap (cx Tryz.prog mixed tyT_ok E) .str b es ∧ ∀ k, Look es (.string k) (i64 0) (decide (0 ≤ kindK k), i64 (kindN k))) (l : List Src) (ls : List ByteArray) (n : Int) (h0 : 0 ≤ n) (hn : n < l.length) (hl : l.length ≤ 120) (h1 : 1 ≤ ls.length) (h8 : ls.length ≤ 8) (hw : (l.getD n.toNat default).v.wt ≤ 100000000) :
    Sp (cx Tryz.prog mixed tyT_ok E) 40 [encSrcs l, i64 n, encStrs ls] (i64 (oneE l n.toNat ls)) := by
  have e : (n - 1).toNat = n.toNat - 1 := by omega
  obtain ⟨r, hr⟩ : ∃ r, r = oneE l n.toNat ls := ⟨_, rfl⟩
  rw [← hr]
  unfold oneE srcE tailE at hr
  rw [← e] at hr
  have c1 := r_isPath_sp E hML (l.getD n.toNat default).path
  have c2 : pathB (l.getD n.toNat default).path = true → Sp (cx Tryz.prog mixed tyT_ok E) 96 [dS (l.getD n.toNat default).path] (dB (decide (12 < cntB (l.getD n.toNat default).path + 1))) := fun h => deepPath_sp E _ (by have := path_size h; have := cntB_le (l.getD n.toNat default).path; omega)
  have c3 : pathB (l.getD n.toNat default).path = true → Sp (cx Tryz.prog mixed tyT_ok E) 97 [dS (l.getD n.toNat default).path, encStrs ls] (encId (idnR (l.getD n.toNat default).path ls)) := fun h => kindOfPath_sp E _ ls (by have := path_size h; omega) h1 h8
  have c4 := r_isPath_sp E hML (l.getD n.toNat default).key
  have c5 : pathB (l.getD n.toNat default).key = true → Sp (cx Tryz.prog mixed tyT_ok E) 98 [dS (l.getD n.toNat default).path, dS (l.getD n.toNat default).key] (dB (underB (l.getD n.toNat default).path (l.getD n.toNat default).key)) := fun h => under_sp E _ _ (by have := path_size h; omega)
  have c6 := sameEmpty_sp E (l.getD n.toNat default).v
  have c7 := confCheck_sp E (l.getD n.toNat default).v (by have := cnt_le_wt (l.getD n.toNat default).v; omega)
  have c8 : checkE (l.getD n.toNat default).v = 0 → (l.getD n.toNat default).v.kind = 6 → Sp (cx Tryz.prog mixed tyT_ok E) 99 [encV (l.getD n.toNat default).v, i64 (l.getD n.toNat default).kind, dS (l.getD n.toNat default).key] (i64 (setE (l.getD n.toNat default).v (l.getD n.toNat default).kind (l.getD n.toNat default).key)) := fun g1 g2 => r_settings_sp E hML b E0 hg hE hm _ _ _ (check_ok g1) g2 hw
  have he := @empty_kind (l.getD n.toNat default).v
  clear hm hE
  generalize pathB (l.getD n.toNat default).path = pp at *
  generalize cntB (l.getD n.toNat default).path = cn at *
  generalize pathB (l.getD n.toNat default).key = pb at *
  generalize underB (l.getD n.toNat default).path (l.getD n.toNat default).key = ub at *
  generalize emptyB (l.getD n.toNat default).v = eb at *
  generalize checkE (l.getD n.toNat default).v = ce at *
  generalize setE (l.getD n.toNat default).v (l.getD n.toNat default).kind (l.getD n.toNat default).key = se at *
  generalize idnR (l.getD n.toNat default).path ls = d at *
  refine Sp.body Tryz.func40 (by kernel_rfl) rfl (by kernel_rfl) (by kernel_rfl) (by kernel_rfl) ?_
  repeat' first
    | (refine codeW_cond rfl ?_; first | (refine condW_dec ?_ ?_ <;> intro _ <;> try (exfalso; omega)) | refine condW_not ?_ | (refine condW_bool ?_ ?_ <;> intro _ <;> try (exfalso; omega)))
    | (refine facW_intro ?_; intro _)
    | refine Or.inl ?_
    | ((conv => whnf); first | (refine condW_dec ?_ ?_ <;> intro _ <;> try (exfalso; omega)) | refine condW_not ?_ | (refine condW_bool ?_ ?_ <;> intro _ <;> try (exfalso; omega)) | (refine nbC_t (fun _ => ?_) ?_) | (refine nbC_f ?_ (fun _ => ?_)))
    | refine And.intro (by first | omega | (simp only [Int.toNat_natCast] at *; omega) | (simp only [Nat.reduceAdd, Int.cast_ofNat_Int, true_and, and_true]; omega) | kernel_rfl) ?_
    | refine RegW.run ?_
    | refine ⟨_, c1, ?_⟩
    | refine ⟨_, c2 (by assumption), ?_⟩
    | refine ⟨_, c3 (by assumption), ?_⟩
    | refine ⟨_, c4, ?_⟩
    | refine ⟨_, c5 (by assumption), ?_⟩
    | refine ⟨_, c6, ?_⟩
    | refine ⟨_, c7, ?_⟩
    | refine ⟨_, c8 (by assumption) (by assumption), ?_⟩
    | fail
  all_goals clear c1 c2 c3 c4 c5 c6 c7 c8
  all_goals first
    | (refine Dle.i ?_; rw [hr]; clear hr; grind)
    | trace_state
end
end ts
end Go.Proofs.YtdpbgpkjlbdbfaaGreatDoor
namespace Go.Proofs.YtdpbgpkjlbdbfaaGreatDoor
open Go.RowKit
set_option linter.unusedVariables false
set_option linter.unusedSimpArgs false
namespace ts
open rs
def Src.wt (s : Src) : Nat := s.path.size + 1 + (s.key.size + 1) + (s.lang.size + 1) + s.v.wt + (s.rest.size + 1)
section
variable (E : Env)
set_option maxRecDepth 100000
theorem scell_eq (f : Src) (j : Nat) (hj : j < 11) : (encSrc f).cells.getD j .opq = f.cell j := by
  match j, hj with
  | 0, _ => rfl
  | 1, _ => rfl
  | 2, _ => rfl
  | 3, _ => rfl
  | 4, _ => rfl
  | 5, _ => rfl
  | 6, _ => rfl
  | 7, _ => rfl
  | 8, _ => rfl
  | 9, _ => rfl
  | 10, _ => rfl
theorem srcs_of : ∀ (l : List (List DD × Nat)), (∀ x ∈ l, (∃ f : Src, x.1 = (encSrc f).cells ∧ f.wt ≤ x.2) ∧ x.1.length = 11) → ∃ fs : List Src, fs.length = l.length ∧ (∀ i, i < l.length → (l.getD i ([], 0)).1 = (encSrc (fs.getD i default)).cells) ∧ (fs.map Src.wt).sum ≤ (l.map (·.2)).sum
  | [], _ => ⟨[], rfl, fun i hi => by simp at hi, Nat.zero_le _⟩
  | x :: l, h => by
    obtain ⟨vs, h2, h3, h4⟩ := srcs_of l (fun y hy => h y (List.mem_cons_of_mem _ hy))
    obtain ⟨⟨v, h6, h7⟩, _⟩ := h x List.mem_cons_self
    refine ⟨v :: vs, by simp [h2], fun i hi => ?_, ?_⟩
    · match i, hi with
      | 0, _ => exact h6
      | i + 1, hi => exact h3 i (by simpa using hi)
    · simp only [List.map_cons, List.sum_cons]
      omega
theorem opn_src (N : Nat) : Opn (cx Tryz.prog mixed tyT_ok E) N 59 (fun ds n => ∃ f : Src, ds = (encSrc f).cells ∧ f.wt ≤ n) := by
  refine Opn.le (Opn.mono (opn_struct (X := (cx Tryz.prog mixed tyT_ok E)) (N := N) Tryz.underlying59 (by kernel_rfl) (by kernel_rfl) (by kernel_rfl) (Rs := [_, _, _, _, _, _])
    ⟨opn_str (X := (cx Tryz.prog mixed tyT_ok E)) Tryz.underlying9, opn_str (X := (cx Tryz.prog mixed tyT_ok E)) Tryz.underlying9, opn_str (X := (cx Tryz.prog mixed tyT_ok E)) Tryz.underlying9, opn_int (X := (cx Tryz.prog mixed tyT_ok E)) Tryz.underlying3, opn_val E N, opn_str (X := (cx Tryz.prog mixed tyT_ok E)) Tryz.underlying9, trivial⟩) ?_) (Nat.le_succ _)
  rintro ds n ⟨_, _, _, _, ⟨s, hs, rfl, rfl⟩, ⟨_, _, _, _, ⟨k, hk, rfl, rfl⟩, ⟨_, _, _, _, ⟨la, hla, rfl, rfl⟩, ⟨_, _, _, _, ⟨kd, hkd, rfl, rfl⟩, ⟨_, _, _, _, ⟨v, hv, rfl, hvw⟩, ⟨_, _, _, _, ⟨re, hre, rfl, rfl⟩, ⟨rfl, rfl⟩, rfl, rfl⟩, rfl, rfl⟩, rfl, rfl⟩, rfl, rfl⟩, rfl, rfl⟩, rfl, rfl⟩
  refine ⟨_, _, ⟨⟨s, k, la, kd, v, re⟩, rfl, Nat.le_refl _⟩, ?_, ⟨Dle.refl _ _, Dle.refl _ _, Dle.refl _ _, Dle.refl _ _, Dle.refl _ _, Dle.refl _ _, Dle.refl _ _, Dle.refl _ _, Dle.refl _ _, Dle.refl _ _, Dle.refl _ _, trivial⟩⟩
  simp only [Src.wt]
  omega
theorem opn_srcs (N : Nat) : Opn (cx Tryz.prog mixed tyT_ok E) N 22 (fun ds n => ∃ l : List Src, ds = [encSrcs l] ∧ (l.map Src.wt).sum ≤ n) := by
  refine Opn.le (Opn.mono (opn_slice (X := (cx Tryz.prog mixed tyT_ok E)) Tryz.underlying22 (by kernel_rfl) (opn_src E N)) ?_) (Nat.le_succ _)
  rintro ds n ⟨l, hl, hb, rfl, rfl⟩
  obtain ⟨vs, h2, h3, h4⟩ := srcs_of l hl
  refine ⟨_, _, ⟨vs, rfl, h4⟩, Nat.le_refl _, ⟨?_, trivial⟩⟩
  refine Dle.sl (X := (cx Tryz.prog mixed tyT_ok E)) (show l.length = vs.length from h2.symm) (fun i j hi hj => Dle.of_eq ?_)
  rw [h3 i hi]
  exact scell_eq _ _ hj
theorem opn_srcs1 (N : Nat) : Opn (cx Tryz.prog mixed tyT_ok E) N 22 (fun ds n => ∃ d : DD, ds = [d] ∧ ∃ l : List Src, d = encSrcs l ∧ (l.map Src.wt).sum ≤ n) := by
  refine Opn.mono (opn_srcs E N) ?_
  rintro ds n ⟨l, rfl, hl⟩
  exact ⟨_, _, ⟨_, rfl, l, rfl, hl⟩, Nat.le_refl _, ⟨Dle.refl _ _, trivial⟩⟩
theorem opn_strs1 (N : Nat) : Opn (cx Tryz.prog mixed tyT_ok E) N 23 (fun ds n => ∃ d : DD, ds = [d] ∧ ∃ l : List ByteArray, d = encStrs l ∧ n = (l.map fun s => s.size + 1).sum) := by
  refine Opn.mono (opn_strs E Tryz.underlying23 Tryz.underlying9 (by kernel_rfl) (by kernel_rfl) (by kernel_rfl)) ?_
  rintro ds n ⟨l, rfl, hl⟩
  exact ⟨_, _, ⟨_, rfl, l, rfl, hl⟩, Nat.le_refl _, ⟨Dle.refl _ _, trivial⟩⟩
theorem src_mem : ∀ (l : List Src) (f : Src), f ∈ l → f.wt ≤ (l.map Src.wt).sum
  | g :: l, f, h => by
    simp only [List.map_cons, List.sum_cons]
    rcases List.mem_cons.1 h with rfl | h
    · omega
    · have := src_mem l f h; omega
theorem src_at {l : List Src} {B : Nat} (hw : (l.map Src.wt).sum ≤ B) {k : Nat} (hk : k < l.length) : (l.getD k default).v.wt ≤ B := by
  have h1 := src_mem l _ (getD_mem l default k hk)
  have h2 : (l.getD k default).v.wt ≤ (l.getD k default).wt := by unfold Src.wt; omega
  omega
end
end ts
end Go.Proofs.YtdpbgpkjlbdbfaaGreatDoor
