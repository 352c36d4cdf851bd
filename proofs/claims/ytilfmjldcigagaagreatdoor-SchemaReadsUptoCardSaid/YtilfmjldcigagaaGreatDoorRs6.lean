/-
  A schema's value: what the reference's tests say, in the program's words.
-/
import Derived.Test.YtilfmjldcigagaaGreatDoorRs2
import Derived.Test.YtilfmjldcigagaaGreatDoorRs1c
namespace Go.Proofs.YtilfmjldcigagaaGreatDoor
open Go.RowKit
set_option linter.unusedVariables false
set_option linter.unusedSimpArgs false
namespace rs
def topKn (k : ByteArray) : Bool := decide (k = (⟨#[102, 105, 101, 108, 100, 115]⟩ : ByteArray)) || decide (k = (⟨#[115, 116, 114, 105, 99, 116]⟩ : ByteArray))
def topKd (k : ByteArray) : Int := if k = (⟨#[102, 105, 101, 108, 100, 115]⟩ : ByteArray) then 5 else if k = (⟨#[115, 116, 114, 105, 99, 116]⟩ : ByteArray) then 1 else 0
def inKn (k : ByteArray) : Bool := decide (fk k ≠ -1) || decide (k = (⟨#[100, 101, 102, 97, 117, 108, 116]⟩ : ByteArray))
def inKd (k : ByteArray) : Int := if inKn k = true then fk k else 0
noncomputable abbrev topEs : List (Value × DD) := mset (mset [] (.string (⟨#[115, 116, 114, 105, 99, 116]⟩ : ByteArray)) (i64 1)) (.string (⟨#[102, 105, 101, 108, 100, 115]⟩ : ByteArray)) (i64 5)
noncomputable abbrev inEs : List (Value × DD) := mset (mset (mset (mset (mset (mset (mset [] (.string (⟨#[114, 111, 117, 116, 101]⟩ : ByteArray)) (i64 3)) (.string (⟨#[107, 105, 110, 100]⟩ : ByteArray)) (i64 3)) (.string (⟨#[110, 101, 101, 100]⟩ : ByteArray)) (i64 1)) (.string (⟨#[109, 105, 110]⟩ : ByteArray)) (i64 2)) (.string (⟨#[109, 97, 120]⟩ : ByteArray)) (i64 2)) (.string (⟨#[111, 110, 101, 111, 102]⟩ : ByteArray)) (i64 5)) (.string (⟨#[100, 101, 102, 97, 117, 108, 116]⟩ : ByteArray)) (i64 (-1))
theorem look_set {es : List (Value × DD)} {a k : ByteArray} {x z : DD} {q : Bool × DD} (h : Look es (.string k) z q) : Look (mset es (.string a) x) (.string k) z (if k = a then (true, x) else q) := by
  by_cases e : k = a
  · rw [if_pos e]
    refine .inl ⟨_, mset_new _ _ _, ?_, rfl⟩
    show Value.string _ = _
    rw [e]
  · rw [if_neg e]
    rcases h with ⟨p, hp, h1, h2⟩ | ⟨h1, h2⟩
    · refine .inl ⟨p, mset_old hp (fun g => e ?_), h1, h2⟩
      rw [h1] at g
      injection g with g
    · refine .inr ⟨fun p hp => ?_, h2⟩
      rcases mset_mem hp with rfl | ⟨hp, _⟩
      · intro g
        injection g with g
        exact e g.symm
      · exact h1 p hp
theorem look_nil (k : ByteArray) : Look ([] : List (Value × DD)) (.string k) (i64 0) (false, i64 0) := .inr ⟨fun p hp => (by cases hp), rfl⟩
theorem look_top (k : ByteArray) : Look topEs (.string k) (i64 0) (topKn k, i64 (topKd k)) := by
  have h := look_set (a := (⟨#[102, 105, 101, 108, 100, 115]⟩ : ByteArray)) (x := i64 5) (look_set (a := (⟨#[115, 116, 114, 105, 99, 116]⟩ : ByteArray)) (x := i64 1) (look_nil k))
  have e : (if k = (⟨#[102, 105, 101, 108, 100, 115]⟩ : ByteArray) then (true, i64 5) else if k = (⟨#[115, 116, 114, 105, 99, 116]⟩ : ByteArray) then (true, i64 1) else (false, i64 0) : Bool × DD) = (topKn k, i64 (topKd k)) := by
    unfold topKn topKd
    by_cases h1 : k = (⟨#[102, 105, 101, 108, 100, 115]⟩ : ByteArray)
    · rw [if_pos h1, if_pos h1, decide_eq_true h1]; rfl
    · rw [if_neg h1, if_neg h1, decide_eq_false h1]
      by_cases h2 : k = (⟨#[115, 116, 114, 105, 99, 116]⟩ : ByteArray)
      · rw [if_pos h2, if_pos h2, decide_eq_true h2]; rfl
      · rw [if_neg h2, if_neg h2, decide_eq_false h2]; rfl
  rw [← e]
  exact h
theorem look_in (k : ByteArray) : Look inEs (.string k) (i64 0) (inKn k, i64 (inKd k)) := by
  have h := look_set (a := (⟨#[100, 101, 102, 97, 117, 108, 116]⟩ : ByteArray)) (x := i64 (-1)) (look_set (a := (⟨#[111, 110, 101, 111, 102]⟩ : ByteArray)) (x := i64 5) (look_set (a := (⟨#[109, 97, 120]⟩ : ByteArray)) (x := i64 2) (look_set (a := (⟨#[109, 105, 110]⟩ : ByteArray)) (x := i64 2) (look_set (a := (⟨#[110, 101, 101, 100]⟩ : ByteArray)) (x := i64 1) (look_set (a := (⟨#[107, 105, 110, 100]⟩ : ByteArray)) (x := i64 3) (look_set (a := (⟨#[114, 111, 117, 116, 101]⟩ : ByteArray)) (x := i64 3) (look_nil k)))))))
  have e : (if k = (⟨#[100, 101, 102, 97, 117, 108, 116]⟩ : ByteArray) then (true, i64 (-1)) else if k = (⟨#[111, 110, 101, 111, 102]⟩ : ByteArray) then (true, i64 5) else if k = (⟨#[109, 97, 120]⟩ : ByteArray) then (true, i64 2) else if k = (⟨#[109, 105, 110]⟩ : ByteArray) then (true, i64 2) else if k = (⟨#[110, 101, 101, 100]⟩ : ByteArray) then (true, i64 1) else if k = (⟨#[107, 105, 110, 100]⟩ : ByteArray) then (true, i64 3) else if k = (⟨#[114, 111, 117, 116, 101]⟩ : ByteArray) then (true, i64 3) else (false, i64 0) : Bool × DD) = (inKn k, i64 (inKd k)) := by
    by_cases h1 : k = (⟨#[100, 101, 102, 97, 117, 108, 116]⟩ : ByteArray)
    · subst h1; rfl
    · by_cases h2 : k = (⟨#[111, 110, 101, 111, 102]⟩ : ByteArray)
      · subst h2; rfl
      · by_cases h3 : k = (⟨#[109, 97, 120]⟩ : ByteArray)
        · subst h3; rfl
        · by_cases h4 : k = (⟨#[109, 105, 110]⟩ : ByteArray)
          · subst h4; rfl
          · by_cases h5 : k = (⟨#[110, 101, 101, 100]⟩ : ByteArray)
            · subst h5; rfl
            · by_cases h6 : k = (⟨#[107, 105, 110, 100]⟩ : ByteArray)
              · subst h6; rfl
              · by_cases h7 : k = (⟨#[114, 111, 117, 116, 101]⟩ : ByteArray)
                · subst h7; rfl
                · have f : fk k = -1 := by unfold fk; rw [if_neg h7, if_neg h6, if_neg h5, if_neg h3, if_neg h4, if_neg h2]
                  have g : inKn k = false := by unfold inKn; rw [f, decide_eq_false h1]; rfl
                  unfold inKd
                  rw [g, if_neg h1, if_neg h2, if_neg h3, if_neg h4, if_neg h5, if_neg h6, if_neg h7]
                  rfl
  rw [← e]
  exact h
theorem unkN_iff (kn : ByteArray → Bool) (v : Vu) : ∀ n, unkN kn v n = true ↔ ∃ i, i < n ∧ kn (v.keys.getD i ⟨#[]⟩) = false
  | 0 => by simp [unkN]
  | n + 1 => by
    rw [unkN, Bool.or_eq_true, unkN_iff kn v n]
    constructor
    · rintro (⟨i, h1, h2⟩ | h)
      · exact ⟨i, by omega, h2⟩
      · exact ⟨n, by omega, Bool.not_eq_true' _ ▸ h⟩
    · rintro ⟨i, h1, h2⟩
      by_cases e : i = n
      · subst e; exact .inr (by rw [h2]; rfl)
      · exact .inl ⟨i, by omega, h2⟩
theorem wroN_iff (kn : ByteArray → Bool) (kd : ByteArray → Int) (v : Vu) : ∀ n, wroN kn kd v n = true ↔ ∃ i, i < n ∧ kn (v.keys.getD i ⟨#[]⟩) = true ∧ kd (v.keys.getD i ⟨#[]⟩) ≠ -1 ∧ (v.items.getD i .zero).kind ≠ kd (v.keys.getD i ⟨#[]⟩)
  | 0 => by simp [wroN]
  | n + 1 => by
    rw [wroN, Bool.or_eq_true, wroN_iff kn kd v n]
    unfold wroB
    rw [Bool.and_eq_true, Bool.and_eq_true, decide_eq_true_eq, decide_eq_true_eq]
    constructor
    · rintro (⟨i, h1, h2⟩ | h)
      · exact ⟨i, by omega, h2⟩
      · exact ⟨n, by omega, h⟩
    · rintro ⟨i, h1, h2⟩
      by_cases e : i = n
      · subst e; exact .inr h2
      · exact .inl ⟨i, by omega, h2⟩
theorem item_at {v : Vu} (hf : faultE v = 0) {i : Nat} (hi : i < v.keys.length) {k : ByteArray} (hk : v.keys.getD i ⟨#[]⟩ = k) : hasK v k = true ∧ itemK v k = v.items.getD i .zero := by
  obtain ⟨g1, g2⟩ := find_at (fault_keys hf).1 hi hk
  refine ⟨g2, ?_⟩
  unfold itemK getK
  rw [if_pos g2, g1]
  rfl
theorem item_of {v : Vu} {k : ByteArray} (h : hasK v k = true) : ∃ i, i < v.keys.length ∧ v.keys.getD i ⟨#[]⟩ = k ∧ itemK v k = v.items.getD i .zero := by
  obtain ⟨g1, g2⟩ := has_key h
  refine ⟨_, g1, g2, ?_⟩
  unfold itemK getK
  rw [if_pos h]
  rfl
theorem top_wrong {v : Vu} (hf : faultE v = 0) : wroN topKn topKd v v.keys.length = true ↔ badTop v := by
  rw [wroN_iff]
  unfold badTop
  constructor
  · rintro ⟨i, hi, h1, h2, h3⟩
    by_cases e : v.keys.getD i ⟨#[]⟩ = (⟨#[102, 105, 101, 108, 100, 115]⟩ : ByteArray)
    · obtain ⟨g1, g2⟩ := item_at hf hi e
      refine .inr ⟨g1, ?_⟩
      rw [g2]
      rw [e] at h3
      exact h3
    · by_cases e2 : v.keys.getD i ⟨#[]⟩ = (⟨#[115, 116, 114, 105, 99, 116]⟩ : ByteArray)
      · obtain ⟨g1, g2⟩ := item_at hf hi e2
        refine .inl ⟨g1, ?_⟩
        rw [g2]
        rw [e2] at h3
        exact h3
      · unfold topKn at h1
        rw [decide_eq_false e, decide_eq_false e2] at h1
        cases h1
  · rintro (⟨h1, h2⟩ | ⟨h1, h2⟩)
    · obtain ⟨i, hi, g1, g2⟩ := item_of h1
      refine ⟨i, hi, ?_⟩
      rw [g1, ← g2]
      exact ⟨by decide, by decide, h2⟩
    · obtain ⟨i, hi, g1, g2⟩ := item_of h1
      refine ⟨i, hi, ?_⟩
      rw [g1, ← g2]
      exact ⟨by decide, by decide, h2⟩
theorem top_odd (v : Vu) : unkN topKn v v.keys.length = true ↔ oddTop v := by
  rw [unkN_iff]
  unfold oddTop topKn
  constructor
  · rintro ⟨i, hi, h⟩
    rw [Bool.or_eq_false_iff] at h
    exact ⟨i, hi, of_decide_eq_false h.1, of_decide_eq_false h.2⟩
  · rintro ⟨i, hi, h1, h2⟩
    exact ⟨i, hi, by rw [decide_eq_false h1, decide_eq_false h2]; rfl⟩
def tabW (t : Vu) : Bool := wroN inKn inKd t t.keys.length || (hasK t (⟨#[111, 110, 101, 111, 102]⟩ : ByteArray) && !strB (itemK t (⟨#[111, 110, 101, 111, 102]⟩ : ByteArray)))
def tabU (t : Vu) : Bool := unkN inKn t t.keys.length || (hasK t (⟨#[107, 105, 110, 100]⟩ : ByteArray) && (!decide ((itemK t (⟨#[107, 105, 110, 100]⟩ : ByteArray)).text = (⟨#[97, 110, 121]⟩ : ByteArray)) && !decide (0 ≤ nameI (itemK t (⟨#[107, 105, 110, 100]⟩ : ByteArray)).text)))
theorem tab_wrong {t : Vu} (hf : faultE t = 0) (h6 : t.kind = 6) : tabW t = true ↔ badTab t := by
  unfold tabW badTab
  rw [Bool.or_eq_true, wroN_iff, Bool.and_eq_true]
  constructor
  · rintro (⟨i, hi, h1, h2, h3⟩ | ⟨h1, h2⟩)
    · refine .inr ⟨i, hi, .inl ?_⟩
      unfold inKd at h2 h3
      rw [if_pos h1] at h2 h3
      exact ⟨h2, h3⟩
    · obtain ⟨i, hi, g1, g2⟩ := item_of h1
      refine .inr ⟨i, hi, ?_⟩
      rw [g1, ← g2]
      unfold strB at h2
      by_cases e : (itemK t (⟨#[111, 110, 101, 111, 102]⟩ : ByteArray)).kind = 5
      · refine .inr ⟨rfl, ?_⟩
        rw [decide_eq_true e, Bool.true_and, Bool.not_not, List.any_eq_true] at h2
        obtain ⟨x, hx, hx2⟩ := h2
        obtain ⟨j, hj, rfl⟩ := List.mem_iff_getElem.1 hx
        exact ⟨j, hj, by simpa [List.getD, hj] using hx2⟩
      · exact .inl ⟨by decide, e⟩
  · rintro (h | ⟨i, hi, h⟩)
    · exact absurd h6 h
    · rcases h with ⟨h1, h2⟩ | ⟨h1, j, hj, h2⟩
      · have hk : inKn (t.keys.getD i ⟨#[]⟩) = true := by unfold inKn; rw [decide_eq_true h1]; rfl
        refine .inl ⟨i, hi, hk, ?_⟩
        unfold inKd
        rw [if_pos hk]
        exact ⟨h1, h2⟩
      · obtain ⟨g1, g2⟩ := item_at hf hi h1
        refine .inr ⟨g1, ?_⟩
        rw [g2]
        unfold strB
        rw [Bool.not_and, Bool.not_not, Bool.or_eq_true]
        refine .inr (List.any_eq_true.2 ⟨_, getD_mem _ .zero j hj, decide_eq_true h2⟩)
theorem tab_odd {t : Vu} (hf : faultE t = 0) : tabU t = true ↔ oddTab t := by
  unfold tabU oddTab
  rw [Bool.or_eq_true, unkN_iff, Bool.and_eq_true, ← Bool.not_or, Bool.not_eq_true']
  constructor
  · rintro (⟨i, hi, h⟩ | ⟨h1, h2⟩)
    · refine ⟨i, hi, .inl ?_⟩
      unfold inKn at h
      rw [Bool.or_eq_false_iff] at h
      exact ⟨Classical.byContradiction (fun g => by rw [decide_eq_true g] at h; cases h.1), of_decide_eq_false h.2⟩
    · obtain ⟨i, hi, g1, g2⟩ := item_of h1
      refine ⟨i, hi, .inr ?_⟩
      rw [g1, ← g2]
      exact ⟨rfl, h2⟩
  · rintro ⟨i, hi, ⟨h1, h2⟩ | ⟨h1, h2⟩⟩
    · refine .inl ⟨i, hi, ?_⟩
      unfold inKn
      rw [decide_eq_false (fun g => g h1), decide_eq_false h2]
      rfl
    · obtain ⟨g1, g2⟩ := item_at hf hi h1
      refine .inr ⟨g1, ?_⟩
      rw [g2]
      exact h2
/-- What the reference's loop has gathered. -/
def gat (u : Bool) (p : Vu → Bool) (l : List Vu) : Nat → Bool
  | 0 => u
  | k + 1 => gat u p l k || p (l.getD k .zero)
theorem gat_iff (u : Bool) (p : Vu → Bool) (l : List Vu) : ∀ n, gat u p l n = true ↔ u = true ∨ ∃ i, i < n ∧ p (l.getD i .zero) = true
  | 0 => by simp [gat]
  | n + 1 => by
    rw [gat, Bool.or_eq_true, gat_iff u p l n]
    constructor
    · rintro ((h | ⟨i, h1, h2⟩) | h)
      · exact .inl h
      · exact .inr ⟨i, by omega, h2⟩
      · exact .inr ⟨n, by omega, h⟩
    · rintro (h | ⟨i, h1, h2⟩)
      · exact .inl (.inl h)
      · by_cases e : i = n
        · subst e; exact .inr h2
        · exact .inl (.inr ⟨i, by omega, h2⟩)
end rs
end Go.Proofs.YtilfmjldcigagaaGreatDoor
