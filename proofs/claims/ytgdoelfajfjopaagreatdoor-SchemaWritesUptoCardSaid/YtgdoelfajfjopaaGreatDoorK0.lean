/-
  Schemas as data; what is wrong with a field; stars in routes; routes that came before.
-/
import Derived.Test.YtgdoelfajfjopaaGreatDoorS3
import Derived.Test.YtgdoelfajfjopaaGreatDoorN18
namespace Go.Proofs.YtgdoelfajfjopaaGreatDoor
open Go.RowKit
set_option linter.unusedVariables false
set_option linter.unusedSimpArgs false
/-- conf.Field. -/
structure Fd where
  route : ByteArray
  kind : Int
  need : Bool
  bounded : Bool
  lo : Int
  hi : Int
  oneOf : List ByteArray
  dflt : Vu
instance : Inhabited Fd := ⟨⟨⟨#[]⟩, 0, false, false, 0, 0, [], .zero⟩⟩
def Fd.cell (f : Fd) (j : Nat) : DD :=
  match j with
  | 0 => dS f.route
  | 1 => i64 f.kind
  | 2 => dB f.need
  | 3 => dB f.bounded
  | 4 => i64 f.lo
  | 5 => i64 f.hi
  | 6 => encStrs f.oneOf
  | 7 => i64 f.dflt.kind
  | 8 => dB f.dflt.b
  | 9 => i64 f.dflt.i
  | 10 => dS f.dflt.text
  | 11 => .rc (.vals f.dflt.items)
  | 12 => encStrs f.dflt.keys
  | _ => .opq
def encF (f : Fd) : DD := .agg [dS f.route, i64 f.kind, dB f.need, dB f.bounded, i64 f.lo, i64 f.hi, encStrs f.oneOf, i64 f.dflt.kind, dB f.dflt.b, i64 f.dflt.i, dS f.dflt.text, .rc (.vals f.dflt.items), encStrs f.dflt.keys]
def encFs (l : List Fd) : DD := .sl 13 160 l.length (fun i j => (l.getD i default).cell j)
/-! ## Stars -/
def starB (s : ByteArray) : Bool := decide (0 ≤ Lib.indexByte s.data.toList 42)
theorem starB_iff (s : ByteArray) : starB s = true ↔ (42 : UInt8) ∈ s.data.toList := by
  unfold starB
  rw [decide_eq_true_eq]
  refine ⟨fun h => ?_, fun h => ?_⟩
  · have h1 : Lib.indexByte s.data.toList 42 = ((Lib.indexByte s.data.toList 42).toNat : Int) := by omega
    exact List.mem_of_getElem? (Lib.indexByte_some h1).1
  · have hge := Lib.indexByte_ge s.data.toList 42
    rcases Int.lt_or_le (Lib.indexByte s.data.toList 42) 0 with h1 | h1
    · have h2 : Lib.indexByte s.data.toList 42 = -1 := by omega
      obtain ⟨k, hk⟩ := List.mem_iff_getElem?.1 h
      exact absurd hk (Lib.indexByte_none h2 k)
    · exact h1
theorem extract_list (s : ByteArray) (a b : Nat) : (s.extract a b).data.toList = (s.data.toList.take b).drop a := by
  simp [ByteArray.data_extract, List.drop_take]
theorem pcs_star (c : UInt8) (hc : c ≠ 46) : ∀ (k : Nat) (s : ByteArray), (∃ p ∈ Lib.splitB ⟨#[46]⟩ 0 k s, c ∈ p.data.toList) ↔ c ∈ s.data.toList
  | 0, s => by rw [Lib.splitB_zero]; simp
  | k + 1, s => by
    by_cases hm : Lib.indexB s ⟨#[46]⟩ = -1
    · rw [Lib.splitB_miss _ _ _ _ hm]; simp
    · have hi : ∃ i : Nat, Lib.indexB s ⟨#[46]⟩ = i ∧ i + (⟨#[46]⟩ : ByteArray).size ≤ s.size := (Lib.indexB_cases s ⟨#[46]⟩).resolve_left hm
      obtain ⟨i, hi, hle⟩ := hi
      rw [Lib.splitB_hit _ _ _ _ _ hi]
      have h1 : s.data.toList[i]? = some 46 := (Lib.indexByte_some (show Lib.indexByte s.data.toList 46 = (i : Nat) by rw [← hi]; exact (Lib.index_one _ _).symm)).1
      have ih := pcs_star c hc k (s.extract (i + (⟨#[46]⟩ : ByteArray).size) s.size)
      have e1 : (s.extract 0 (i + 0)).data.toList = s.data.toList.take i := by rw [extract_list, List.drop_zero, Nat.add_zero]
      have e2 : (s.extract (i + (⟨#[46]⟩ : ByteArray).size) s.size).data.toList = s.data.toList.drop (i + 1) := by
        rw [extract_list, List.take_of_length_le (by simp)]
        rfl
      have e3 : s.data.toList = s.data.toList.take i ++ 46 :: s.data.toList.drop (i + 1) := by
        obtain ⟨hlt, hg⟩ := List.getElem?_eq_some_iff.1 h1
        have := List.take_append_drop i s.data.toList
        rw [List.drop_eq_getElem_cons hlt, hg] at this
        exact this.symm
      rw [e2] at ih
      have e4 : c ∈ s.data.toList ↔ c ∈ s.data.toList.take i ∨ c ∈ s.data.toList.drop (i + 1) := by
        refine (show c ∈ s.data.toList ↔ c ∈ s.data.toList.take i ++ 46 :: s.data.toList.drop (i + 1) from by rw [← e3]).trans ?_
        simp [hc]
      rw [e4, ← ih]
      constructor
      · rintro ⟨p, hp, hcp⟩
        rcases List.mem_cons.1 hp with rfl | hp
        · rw [e1] at hcp; exact .inl hcp
        · exact .inr ⟨p, hp, hcp⟩
      · rintro (h | ⟨p, hp, hcp⟩)
        · exact ⟨_, List.mem_cons_self, by rw [e1]; exact h⟩
        · exact ⟨p, List.mem_cons_of_mem _ hp, hcp⟩
theorem byte_at {s : ByteArray} {c : UInt8} (h : c ∈ s.data.toList) : ∃ k, k < s.size ∧ bAt s k = c := by
  obtain ⟨k, hk, e⟩ := List.getElem_of_mem h
  exact ⟨k, by simpa using hk, by unfold bAt; simp [List.getD, List.getElem?_eq_getElem hk, e]⟩
theorem step_star {p : ByteArray} (h : partOk true p = true) : (stepOf p).star = true ↔ (42 : UInt8) ∈ p.data.toList := by
  have hk : keyOkB p = true → (42 : UInt8) ∉ p.data.toList := fun hk hm => by
    obtain ⟨k, hk1, hk2⟩ := byte_at hm
    unfold keyOkB at hk
    simp only [Bool.and_eq_true] at hk
    have := allN_iff.1 hk.2 k hk1
    rw [hk2] at this
    exact absurd this (by decide)
  have hi : indexB p = true → (42 : UInt8) ∉ p.data.toList := fun hi hm => by
    obtain ⟨k, hk1, hk2⟩ := byte_at hm
    unfold indexB digs at hi
    simp only [Bool.and_eq_true] at hi
    have := allN_iff.1 hi.1.2 k hk1
    rw [hk2] at this
    exact absurd this (by decide)
  unfold stepOf
  by_cases h1 : keyOkB p = true
  · rw [if_pos h1]
    simp only [Bool.false_eq_true, false_iff]
    exact hk h1
  · rw [if_neg h1]
    by_cases h2 : p = ⟨#[42]⟩
    · rw [if_pos h2]
      subst h2
      simp
    · rw [if_neg h2]
      simp only [Bool.false_eq_true, false_iff]
      refine hi ?_
      unfold partOk at h
      simp only [Bool.or_eq_true, Bool.and_eq_true, decide_eq_true_eq] at h
      rcases h with (h | h) | h
      · exact absurd h h1
      · exact absurd h.2 h2
      · exact h
/-- Whether one of the steps is a star. -/
def anyStar (l : List Stp) : Bool := l.any (·.star)
theorem star_route {s : ByteArray} (h : routeOk true s = true) (h0 : ¬ s = ⟨#[]⟩) : anyStar ((partsR s).map stepOf) = starB s := by
  have hl : ¬ (400 : Int) < s.size := fun h1 => by rw [routeOk_long h1] at h; cases h
  obtain ⟨e1, e2⟩ := routeOk_all (stars := true) hl h0
  rw [e1] at h
  rw [e2, Bool.eq_iff_iff, starB_iff, ← pcs_star 42 (by decide) (Lib.countB s ⟨#[46]⟩) s]
  unfold anyStar pcs
  rw [List.any_eq_true]
  have ha := List.all_eq_true.1 h
  constructor
  · rintro ⟨x, hx, hs⟩
    obtain ⟨p, hp, rfl⟩ := List.mem_map.1 hx
    exact ⟨p, hp, (step_star (ha p hp)).1 hs⟩
  · rintro ⟨p, hp, hs⟩
    exact ⟨_, List.mem_map.2 ⟨p, hp, rfl⟩, (step_star (ha p hp)).2 hs⟩
theorem parts_none {s : ByteArray} (h : ¬ (400 : Int) < s.size) : (partsR s).length = 0 ↔ s = ⟨#[]⟩ := by
  by_cases h0 : s = ⟨#[]⟩
  · rw [(routeOk_nil (stars := false) h0).2]
    simp [h0]
  · rw [(routeOk_all (stars := false) h h0).2, pcs_len _ _ (by decide)]
    simp [h0]
/-! ## What is wrong with a field -/
/-- What is wrong with the strings of which a value is one, from a place on. -/
def oneE (l : List ByteArray) (k : Nat) : Int := if k < l.length then (if 5000 < (l.getD k ⟨#[]⟩).size then 4 else if badStr (l.getD k ⟨#[]⟩) = true then 9 else oneE l (k + 1)) else 0
  termination_by l.length - k
theorem oneE_end {l : List ByteArray} {k : Nat} (h : ¬ k < l.length) : oneE l k = 0 := by rw [oneE, if_neg h]
theorem oneE_at {l : List ByteArray} {k : Nat} (h : k < l.length) : oneE l k = if 5000 < (l.getD k ⟨#[]⟩).size then 4 else if badStr (l.getD k ⟨#[]⟩) = true then 9 else oneE l (k + 1) := by rw [oneE, if_pos h]
/-- .. behind the strings. -/
def fieldT (f : Fd) (ce : Int) (st : Bool) : Int := if ce ≠ 0 then ce else if f.dflt.kind ≠ 0 ∧ f.kind ≠ -1 ∧ f.dflt.kind ≠ f.kind then 10 else if f.dflt.kind ≠ 0 ∧ st = true then 1 else 0
/-- .. ahead of the strings. -/
def fieldA (f : Fd) (ok dup : Bool) : Int :=
  if ok = false ∨ f.route = ⟨#[]⟩ then 3 else if dup = true then 6 else if f.kind ≠ -1 ∧ (f.kind < 0 ∨ 6 < f.kind) then 10 else if f.bounded = false ∧ (f.lo ≠ 0 ∨ f.hi ≠ 0) then 1 else if f.hi < f.lo then 5 else if 0 < f.oneOf.length ∧ f.kind ≠ 3 then 1 else 0
def fieldE (f : Fd) (dup : Bool) : Int :=
  if fieldA f (routeOk true f.route) dup ≠ 0 then fieldA f (routeOk true f.route) dup else if oneE f.oneOf 0 ≠ 0 then oneE f.oneOf 0 else fieldT f (checkE f.dflt) (starB f.route)
/-- Whether the route of field k came before. -/
def dupB (l : List Fd) (s : ByteArray) (k : Nat) : Bool := (l.take k).any (fun g => decide (g.route = s))
def schemaF (l : List Fd) (k : Nat) : Int := if k < l.length then (if fieldE (l.getD k default) (dupB l (l.getD k default).route k) = 0 then schemaF l (k + 1) else fieldE (l.getD k default) (dupB l (l.getD k default).route k)) else 0
  termination_by l.length - k
theorem schemaF_end {l : List Fd} {k : Nat} (h : ¬ k < l.length) : schemaF l k = 0 := by rw [schemaF, if_neg h]
theorem schemaF_at {l : List Fd} {k : Nat} (h : k < l.length) : schemaF l k = if fieldE (l.getD k default) (dupB l (l.getD k default).route k) = 0 then schemaF l (k + 1) else fieldE (l.getD k default) (dupB l (l.getD k default).route k) := by rw [schemaF, if_pos h]
def schemaE (l : List Fd) : Int := if 100 < l.length then 4 else schemaF l 0
/-- The routes of the first k fields as a map's content. -/
noncomputable def routesM (l : List Fd) : Nat → List (Value × DD)
  | 0 => []
  | k + 1 => mset (routesM l k) (.string (l.getD k default).route) (dB true)
theorem mset_mem {κ : Type} {es : List (Value × D κ)} {k : Value} {d : D κ} {p : Value × D κ} (h : p ∈ mset es k d) : p = (k, d) ∨ (p ∈ es ∧ p.1 ≠ k) := by
  unfold mset at h
  split at h
  · obtain ⟨q, hq, e⟩ := List.mem_map.1 h
    split at e
    · exact .inl e.symm
    · rename_i hne
      exact .inr ⟨e ▸ hq, e ▸ hne⟩
  · rename_i hno
    rcases List.mem_append.1 h with h | h
    · exact .inr ⟨h, fun e => hno ⟨p, h, e⟩⟩
    · exact .inl (List.mem_singleton.1 h)
theorem mset_new {κ : Type} (es : List (Value × D κ)) (k : Value) (d : D κ) : (k, d) ∈ mset es k d := by
  unfold mset
  split
  · rename_i h
    obtain ⟨q, hq, e⟩ := h
    exact List.mem_map.2 ⟨q, hq, by rw [if_pos e]⟩
  · exact List.mem_append_right _ (List.mem_singleton.2 rfl)
theorem mset_old {κ : Type} {es : List (Value × D κ)} {k : Value} {d : D κ} {p : Value × D κ} (h : p ∈ es) (hne : p.1 ≠ k) : p ∈ mset es k d := by
  unfold mset
  split
  · exact List.mem_map.2 ⟨p, h, by rw [if_neg hne]⟩
  · exact List.mem_append_left _ h
theorem dupB_succ {l : List Fd} {s : ByteArray} {k : Nat} (h : k < l.length) : dupB l s (k + 1) = (dupB l s k || decide ((l.getD k default).route = s)) := by
  unfold dupB
  rw [take_snoc l default k h, List.any_append, List.any_cons, List.any_nil, Bool.or_false]
theorem look_routes {l : List Fd} {s : ByteArray} : ∀ k, k ≤ l.length → Look (routesM l k) (.string s) (dB false) (dupB l s k, dB (dupB l s k))
  | 0, _ => .inr ⟨fun p hp => by simp [routesM] at hp, by simp [dupB]⟩
  | k + 1, hk => by
    have ih := look_routes (l := l) (s := s) k (by omega)
    rw [dupB_succ (by omega)]
    by_cases h : (l.getD k default).route = s
    · rw [decide_eq_true h, Bool.or_true]
      refine .inl ⟨_, mset_new _ _ _, ?_, rfl⟩
      show Value.string _ = _
      rw [h]
    · rw [decide_eq_false h, Bool.or_false]
      rcases ih with ⟨p, hp, h1, h2⟩ | ⟨h1, h2⟩
      · refine .inl ⟨p, mset_old hp (fun e => h ?_), h1, h2⟩
        rw [h1] at e
        injection e with e
        exact e.symm
      · refine .inr ⟨fun p hp => ?_, h2⟩
        rcases mset_mem hp with rfl | ⟨hp, _⟩
        · intro e
          injection e with e
          exact h e
        · exact h1 p hp
end Go.Proofs.YtgdoelfajfjopaaGreatDoor
