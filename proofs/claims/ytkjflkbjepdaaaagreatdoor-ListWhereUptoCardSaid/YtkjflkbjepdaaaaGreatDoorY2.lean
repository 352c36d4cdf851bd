/-
  Conditions that hold: what is reckoned; strings. Conditions that hold: list's side. Conditions that hold: list's side.
-/
import Derived.Test.YtkjflkbjepdaaaaGreatDoorW4
namespace Go.Proofs.YtkjflkbjepdaaaaGreatDoor
open Go.RowKit
set_option linter.unusedVariables false
set_option linter.unusedSimpArgs false
/-! ## Equal values -/
theorem cmpB_eq : ∀ a b : List UInt8, Lib.compareBytes a b = 0 ↔ a = b
  | [], [] => by simp [Lib.compareBytes]
  | [], y :: b => by simp [Lib.compareBytes]
  | x :: a, [] => by simp [Lib.compareBytes]
  | x :: a, y :: b => by
    have ih := cmpB_eq a b
    rw [Lib.compareBytes]
    by_cases h : x = y
    · subst h
      simp [ih, UInt8.lt_irrefl]
    · have h1 : ¬ x = y := h
      rcases UInt8.lt_or_lt_of_ne h with h2 | h2
      · have h3 : ¬ y < x := UInt8.lt_asymm h2
        simp [h2, h1]
      · have h3 : ¬ x < y := UInt8.lt_asymm h2
        simp [h2, h1, h3]
theorem cmpS_eq (a b : ByteArray) : cmpS a b = 0 ↔ a = b := by
  show Lib.compareBytes a.data.toList b.data.toList = 0 ↔ _
  rw [cmpB_eq]
  refine ⟨fun h => ?_, fun h => by rw [h]⟩
  cases a; cases b
  simpa using h
theorem sgn_eq (a b : Int) : sgn a b = 0 ↔ a = b := by unfold sgn; split <;> (try split) <;> omega
theorem cmpK_same (a b : List ByteArray) : ∀ (n k : Nat), a.length - k < n → k ≤ a.length → k ≤ b.length → (cmpK a b k = 0 ↔ a.drop k = b.drop k)
  | 0, k, h, _, _ => by omega
  | n + 1, k, h, h1, h2 => by
    by_cases hk : k < a.length ∧ k < b.length
    · rw [drop_cons a ⟨#[]⟩ k hk.1, drop_cons b ⟨#[]⟩ k hk.2, List.cons.injEq]
      by_cases he : cmpS (a.getD k ⟨#[]⟩) (b.getD k ⟨#[]⟩) = 0
      · rw [cmpK_eq hk he, cmpK_same a b n (k + 1) (by omega) (by omega) (by omega)]
        rw [cmpS_eq] at he
        exact ⟨fun h => ⟨he, h⟩, fun h => h.2⟩
      · rw [cmpK_ne hk he]
        refine ⟨fun h => absurd h he, fun h => absurd ((cmpS_eq _ _).2 h.1) he⟩
    · rw [cmpK_end hk, sgn_eq]
      have hl : (a.drop k).length = a.length - k := by simp
      have hl2 : (b.drop k).length = b.length - k := by simp
      refine ⟨fun h => ?_, fun h => ?_⟩
      · have : a.length = b.length := by omega
        rw [List.drop_of_length_le (by omega), List.drop_of_length_le (by omega)]
      · rw [h] at hl
        omega
theorem bitI_eq (a b : Bool) : bitI a = bitI b ↔ a = b := by cases a <;> cases b <;> simp [bitI]
theorem cmpH_eq (a b : Vu) : cmpH a b = 0 ↔ a.kind = b.kind ∧ a.b = b.b ∧ a.i = b.i ∧ a.text = b.text ∧ a.keys = b.keys := by
  have hk := cmpK_same a.keys b.keys (a.keys.length + 1) 0 (by omega) (Nat.zero_le _) (Nat.zero_le _)
  rw [List.drop_zero, List.drop_zero] at hk
  have h1 := sgn_eq a.kind b.kind
  have h2 := sgn_eq (bitI a.b) (bitI b.b)
  rw [bitI_eq] at h2
  have h3 := sgn_eq a.i b.i
  have h4 := cmpS_eq a.text b.text
  unfold cmpH
  grind
mutual
theorem cmpV_same : ∀ a b : Vu, cmpV a b = 0 ↔ a = b
  | .mk k b i t l ks, w => by
    have ih := cmpL_same l w.items
    rw [cmpV_eq]
    have hh := cmpH_eq (.mk k b i t l ks) w
    rw [Vu.eta w]
    have e : (Vu.mk k b i t l ks = .mk w.kind w.b w.i w.text w.items w.keys) ↔ k = w.kind ∧ b = w.b ∧ i = w.i ∧ t = w.text ∧ l = w.items ∧ ks = w.keys := by simp
    rw [← Vu.eta w] at e ⊢
    rw [e]
    have hh' : cmpH (.mk k b i t l ks) w = 0 ↔ k = w.kind ∧ b = w.b ∧ i = w.i ∧ t = w.text ∧ ks = w.keys := hh
    have ih' : cmpL (Vu.mk k b i t l ks).items w.items = 0 ↔ l = w.items := ih
    split
    · rename_i h
      refine ⟨fun h' => absurd h' h, fun ⟨h1, h2, h3, h4, h5, h6⟩ => hh'.2 ⟨h1, h2, h3, h4, h6⟩⟩
    · rename_i h
      have h := Classical.not_not.1 h
      rw [ih']
      have := hh'.1 h
      grind
theorem cmpL_same : ∀ a b : List Vu, cmpL a b = 0 ↔ a = b
  | [], [] => by simp [cmpL, sgn]
  | [], y :: b => by
    have e : cmpL [] (y :: b) = sgn ([] : List Vu).length (y :: b).length := by simp [cmpL, sgn] <;> omega
    rw [e, sgn_eq]; simp <;> omega
  | x :: a, [] => by
    have e : cmpL (x :: a) [] = sgn (x :: a).length ([] : List Vu).length := by simp [cmpL, sgn] <;> omega
    rw [e, sgn_eq]; simp <;> omega
  | x :: a, y :: b => by
    have h1 := cmpV_same x y
    have h2 := cmpL_same a b
    have e : cmpL (x :: a) (y :: b) = if cmpV x y ≠ 0 then cmpV x y else cmpL a b := by simp only [cmpL]
    rw [e, List.cons.injEq]
    split
    · rename_i h
      exact ⟨fun h' => absurd h' h, fun h' => h1.2 h'.1⟩
    · rename_i h
      have h := Classical.not_not.1 h
      rw [h2]
      exact ⟨fun h' => ⟨h1.1 h, h'⟩, fun h' => h'.2⟩
end
/-! ## What is reckoned -/
def thereB (y : Vu) : Bool :=
  if y.kind = 0 then false else if y.kind = 1 then y.b else if y.kind = 2 then decide (y.i ≠ 0) else if y.kind = 3 ∨ y.kind = 7 then decide (y.text ≠ ⟨#[]⟩) else if y.kind = 5 ∨ y.kind = 6 then decide (0 < y.items.length) else true
def amongB (l : List Vu) (y : Vu) : Bool := l.any (fun x => decide (cmpV x y = 0))
def orderedB (y v : Vu) : Bool := decide (y.kind = v.kind) && (decide (y.kind = 2) || decide (y.kind = 3) || decide (y.kind = 4))
def preB (s p : ByteArray) : Bool := decide (p.size ≤ s.size) && decide (s.extract 0 p.size = p)
def hasB (s p : ByteArray) : Bool := Lib.contains s.data.toList p.data.toList
/-- A condition without kids, at the value of its route. -/
def holdH (o : Int) (v y : Vu) : Bool :=
  if o = 4 then thereB y else if o = 5 then decide (cmpV y v = 0) else if o = 6 then decide (cmpV y v ≠ 0) else if o = 7 then orderedB y v && decide (cmpV y v < 0) else if o = 8 then orderedB y v && decide (cmpV y v ≤ 0)
  else if o = 9 then orderedB y v && decide (0 < cmpV y v) else if o = 10 then orderedB y v && decide (0 ≤ cmpV y v)
  else if o = 11 then (decide (y.kind = 5) && amongB y.items v) || (decide (y.kind = 3) && decide (v.kind = 3) && hasB y.text v.text)
  else if o = 12 then amongB v.items y else decide (y.kind = 3) && decide (v.kind = 3) && preB y.text v.text
mutual
def hold (v : Vu) : Cd → Bool
  | .mk o r x l => if o = 1 then holdAll v l else if o = 2 then holdAny v l else if o = 3 then !(holdFst v l) else holdH o x (hasR v r)
def holdAll (v : Vu) : List Cd → Bool
  | [] => true
  | c :: r => hold v c && holdAll v r
def holdAny (v : Vu) : List Cd → Bool
  | [] => false
  | c :: r => hold v c || holdAny v r
def holdFst (v : Vu) : List Cd → Bool
  | [] => false
  | c :: _ => hold v c
end
theorem hold_eq (v : Vu) (c : Cd) : hold v c = if c.op = 1 then holdAll v c.kids else if c.op = 2 then holdAny v c.kids else if c.op = 3 then !(holdFst v c.kids) else holdH c.op c.value (hasR v c.route) := by
  cases c; simp only [hold, Cd.op, Cd.kids, Cd.value, Cd.route] <;> rfl
theorem holdFst_eq {v : Vu} {l : List Cd} (h : 0 < l.length) : holdFst v l = hold v (l.getD 0 .zero) := by
  cases l with
  | nil => simp at h
  | cons c r => simp [holdFst]
theorem holdAll_drop {v : Vu} {l : List Cd} {k : Nat} (h : k < l.length) : holdAll v (l.drop k) = (hold v (l.getD k .zero) && holdAll v (l.drop (k + 1))) := by
  rw [drop_cons l .zero k h]; simp only [holdAll]
theorem holdAny_drop {v : Vu} {l : List Cd} {k : Nat} (h : k < l.length) : holdAny v (l.drop k) = (hold v (l.getD k .zero) || holdAny v (l.drop (k + 1))) := by
  rw [drop_cons l .zero k h]; simp only [holdAny]
theorem holdAll_end {v : Vu} {l : List Cd} {k : Nat} (h : l.length ≤ k) : holdAll v (l.drop k) = true := by rw [List.drop_of_length_le h]; rfl
theorem holdAny_end {v : Vu} {l : List Cd} {k : Nat} (h : l.length ≤ k) : holdAny v (l.drop k) = false := by rw [List.drop_of_length_le h]; rfl
theorem holdAll_any (v : Vu) : ∀ l : List Cd, holdAll v l = !(l.any fun c => !(hold v c))
  | [] => rfl
  | c :: r => by simp only [holdAll, holdAll_any v r, List.any_cons, Bool.not_or, Bool.not_not]
theorem holdAny_any (v : Vu) : ∀ l : List Cd, holdAny v l = l.any (fun c => hold v c)
  | [] => rfl
  | c :: r => by simp only [holdAny, holdAny_any v r, List.any_cons]
/-- The first place with p from a place on; -1: none. -/
def idxF {α : Type} (d : α) (p : α → Bool) (l : List α) (k : Nat) : Int := if k < l.length then (if p (l.getD k d) = true then (k : Int) else idxF d p l (k + 1)) else -1
  termination_by l.length - k
theorem idxF_any {α : Type} (d : α) (p : α → Bool) (l : List α) : ∀ (n k : Nat), l.length - k < n → decide (0 ≤ idxF d p l k) = (l.drop k).any p
  | 0, k, h => by omega
  | n + 1, k, h => by
    rw [idxF]
    split
    · rename_i h1
      rw [drop_cons l d k h1, List.any_cons]
      split
      · rename_i h2
        rw [h2, decide_eq_true (by omega)]; rfl
      · rename_i h2
        rw [idxF_any d p l n (k + 1) (by omega), (by simpa using h2 : p (l.getD k d) = false), Bool.false_or]
    · rw [List.drop_of_length_le (by omega)]
      rfl
theorem item_range {v : Vu} (h : itemE v = 0) : 0 ≤ v.kind ∧ v.kind ≤ 8 ∧ (v.b = true → v.kind = 1) ∧ (0 < v.items.length → v.kind = 5 ∨ v.kind = 6) ∧ v.text.size ≤ 5000 ∧ (v.text ≠ ⟨#[]⟩ → v.kind = 3 ∨ v.kind = 7 ∨ v.kind = 8) := by
  have hh := (item_head h).1
  rw [headI_P] at hh
  unfold headP skind at hh
  grind
end Go.Proofs.YtkjflkbjepdaaaaGreatDoor
namespace Go.Proofs.YtkjflkbjepdaaaaGreatDoor
open Go.RowKit
set_option linter.unusedVariables false
set_option linter.unusedSimpArgs false
theorem amongB_drop {l : List Vu} {y : Vu} {k : Nat} (h : k < l.length) : amongB (l.drop k) y = (decide (cmpV (l.getD k .zero) y = 0) || amongB (l.drop (k + 1)) y) := by
  unfold amongB
  rw [drop_cons l .zero k h, List.any_cons]
theorem amongB_end {l : List Vu} {y : Vu} {k : Nat} (h : l.length ≤ k) : amongB (l.drop k) y = false := by rw [List.drop_of_length_le h]; rfl
theorem hasR_ok {v : Vu} {s : ByteArray} (h : itemE v = 0) : itemE (hasR v s) = 0 := by
  unfold hasR
  generalize (if routeOk false s = true then partsR s else []) = l
  induction l generalizing v with
  | nil => exact h
  | cons p l ih => exact ih (next_ok h)
theorem condL_mem : ∀ (l : List Cd), condL l = 0 → ∀ x ∈ l, condE x = 0
  | c :: r, h, x, hx => by
    simp only [condL] at h
    by_cases h0 : condE c = 0
    · rw [if_pos h0] at h
      rcases List.mem_cons.1 hx with rfl | hx
      · exact h0
      · exact condL_mem r h x hx
    · rw [if_neg h0] at h
      exact absurd h h0
section
variable (E : Env)
set_option maxRecDepth 100000
theorem innerPrefix_sp (s p : ByteArray) : Sp (cx Tryz.prog mixed tyT_ok E) 124 [dS s, dS p] (dB (preB s p)) := by
  refine Sp.body Tryz.func124 (by kernel_rfl) rfl (by kernel_rfl) (by kernel_rfl) (by kernel_rfl) ?_
  repeat' first
    | (refine facW_intro ?_; intro _)
    | refine Or.inl ?_
    | ((conv => whnf); first | (refine condW_dec ?_ ?_ <;> intro _) | refine condW_not ?_ | (refine condW_bool ?_ ?_ <;> intro _) | (refine nbC_t (fun _ => ?_) ?_) | (refine nbC_f ?_ (fun _ => ?_)))
    | refine And.intro (by first | omega | (simp only [Int.toNat_natCast] at *; omega) | (simp only [Nat.reduceAdd, Int.cast_ofNat_Int, true_and, and_true]; omega) | kernel_rfl) ?_
    | refine RegW.run ?_
    | fail
  all_goals first
    | exact Dle.bo (by unfold preB; grind)
    | exact Dle.bo (by unfold preB; simp only [Int.toNat_natCast] at *; grind)
    | trace_state
theorem hasPrefix_sp (s p : ByteArray) : Sp (cx Tryz.prog mixed tyT_ok E) 67 [dS s, dS p] (dB (preB s p)) := by
  have h := innerPrefix_sp E s p
  generalize preB s p = b at h
  refine Sp.body Tryz.func67 (by kernel_rfl) rfl (by kernel_rfl) (by kernel_rfl) (by kernel_rfl) ?_
  repeat' first
    | (refine facW_intro ?_; intro _)
    | refine Or.inl ?_
    | ((conv => whnf); first | (refine condW_dec ?_ ?_ <;> intro _) | refine condW_not ?_ | (refine condW_bool ?_ ?_ <;> intro _) | (refine nbC_t (fun _ => ?_) ?_) | (refine nbC_f ?_ (fun _ => ?_)))
    | refine And.intro (by first | omega | (simp only [Int.toNat_natCast] at *; omega) | (simp only [Nat.reduceAdd, Int.cast_ofNat_Int, true_and, and_true]; omega) | kernel_rfl) ?_
    | refine RegW.run ?_
    | refine ⟨_, h, ?_⟩
    | fail
  all_goals exact Dle.refl _ _
theorem contains_sp (hML : ∀ w, E.G w → ML w) (s p : ByteArray) (hs : s.size < 4294967281) : Sp (cx Tryz.prog mixed tyT_ok E) 66 [dS s, dS p] (dB (hasB s p)) :=
  Sp.of_v (vs := [.string s, .string p]) ⟨_, _, Tryz.func66, by kernel_rfl, rfl⟩ rfl (fun w hG => by
    obtain ⟨m, hm⟩ := hML w hG
    exact (Tryz.strings_Contains s p m w hs hm).mono fun e w' ⟨he, hb⟩ => ⟨he, hb ▸ Below.refl _ _⟩)
theorem there_sp (v : Vu) : Sp (cx Tryz.prog mixed tyT_ok E) 64 [encV v] (dB (thereB v)) := by
  refine Sp.body Tryz.func64 (by kernel_rfl) rfl (by kernel_rfl) (by kernel_rfl) (by kernel_rfl) ?_
  repeat' first
    | (refine facW_intro ?_; intro _)
    | refine Or.inl ?_
    | ((conv => whnf); first | (refine condW_dec ?_ ?_ <;> intro _ <;> try (exfalso; omega)) | refine condW_not ?_ | (refine condW_bool ?_ ?_ <;> intro _ <;> try (exfalso; omega)) | (refine nbC_t (fun _ => ?_) ?_) | (refine nbC_f ?_ (fun _ => ?_)))
    | refine And.intro (by first | omega | (simp only [Int.toNat_natCast] at *; omega) | (simp only [Nat.reduceAdd, Int.cast_ofNat_Int, true_and, and_true]; omega) | kernel_rfl) ?_
    | refine RegW.run ?_
    | fail
  all_goals first
    | exact Dle.bo (by unfold thereB; grind)
    | trace_state
theorem equal_sp (a b : Vu) : Sp (cx Tryz.prog mixed tyT_ok E) 122 [encV a, encV b] (dB (decide (cmpV a b = 0))) := by
  have h1 := compare_sp E _ a b (Nat.lt_succ_self _)
  generalize cmpV a b = r at h1
  refine Sp.body Tryz.func122 (by kernel_rfl) rfl (by kernel_rfl) (by kernel_rfl) (by kernel_rfl) ?_
  repeat' first
    | (refine facW_intro ?_; intro _)
    | refine Or.inl ?_
    | ((conv => whnf); first | (refine condW_dec ?_ ?_ <;> intro _) | refine condW_not ?_ | (refine condW_bool ?_ ?_ <;> intro _) | (refine nbC_t (fun _ => ?_) ?_) | (refine nbC_f ?_ (fun _ => ?_)))
    | refine And.intro (by first | omega | (simp only [Int.toNat_natCast] at *; omega) | (simp only [Nat.reduceAdd, Int.cast_ofNat_Int, true_and, and_true]; omega) | kernel_rfl) ?_
    | refine RegW.run ?_
    | refine ⟨_, h1, ?_⟩
    | fail
  all_goals exact Dle.refl _ _
theorem among_sp (l : List Vu) (y : Vu) : Sp (cx Tryz.prog mixed tyT_ok E) 65 [.rc (.vals l), encV y] (dB (amongB l y)) := by
  obtain ⟨r, hr⟩ : ∃ r, r = amongB (l.drop 0) y := ⟨_, rfl⟩
  have e : amongB l y = r := hr.symm
  rw [e]
  refine Sp.body Tryz.func65 (by kernel_rfl) rfl (by kernel_rfl) (by kernel_rfl) (by kernel_rfl) ?_
  repeat' first
    | (refine facW_intro ?_; intro _)
    | refine Or.inl ?_
    | ((conv => whnf); first | (refine condW_dec ?_ ?_ <;> intro _) | refine condW_not ?_ | (refine condW_bool ?_ ?_ <;> intro _) | (refine nbC_t (fun _ => ?_) ?_) | (refine nbC_f ?_ (fun _ => ?_)))
    | refine And.intro (by first | omega | (simp only [Int.toNat_natCast] at *; omega) | (simp only [Nat.reduceAdd, Int.cast_ofNat_Int, true_and, and_true]; omega) | kernel_rfl) ?_
    | refine RegW.run ?_
    | fail
  refine ⟨Nat, fun k => [(9, i64 k)], fun k => [], [3], fun k => [], fun k => k ≤ l.length ∧ r = amongB (l.drop k) y, fun k => l.length - k, ⟨0, ⟨by omega, hr⟩, ⟨[], ⟨by kernel_rfl, by kernel_rfl, by kernel_rfl, by kernel_rfl, by kernel_rfl, by kernel_rfl, by kernel_rfl⟩, (by repeat' first | exact trivial | exact rfl | kernel_rfl | exact Dle.of_eq rfl | exact MLe.of_eq rfl | exact Dle.i (by omega) | exact Dle.i (by simp only [Int.toNat_natCast] at *; omega) | exact Dle.nil | exact Dle.rc Dle.nil | exact Option.some_ne_none _ | exact Or.inl rfl | exact Or.inr trivial | omega | (simp only [Int.toNat_natCast] at *; omega) | (intro _ _ _ _; exact Dle.of_eq rfl) | refine And.intro ?_ ?_)⟩⟩, fun k hk => ?_⟩
  obtain ⟨hk, hK⟩ := hk
  by_cases hlt : k < l.length
  · have h1 := equal_sp E (l.getD k .zero) y
    rw [amongB_drop hlt] at hK
    generalize decide (cmpV (l.getD k .zero) y = 0) = b at h1 hK
    repeat' first
      | (refine facW_intro ?_; intro _)
      | refine Or.inl ?_
      | ((conv => whnf); first | (refine condW_dec ?_ ?_ <;> intro _ <;> try (exfalso; omega)) | refine condW_not ?_ | (refine condW_bool ?_ ?_ <;> intro _ <;> try (exfalso; omega)) | (refine nbC_t (fun _ => ?_) ?_) | (refine nbC_f ?_ (fun _ => ?_)))
      | refine And.intro (by first | omega | (simp only [Int.toNat_natCast] at *; omega) | (simp only [Nat.reduceAdd, Int.cast_ofNat_Int, true_and, and_true]; omega) | kernel_rfl) ?_
      | refine RegW.run ?_
      | refine ⟨_, h1, ?_⟩
      | fail
    all_goals first
      | exact ⟨k + 1, ⟨by omega, by rw [hK]; simp_all⟩, ⟨[], ⟨by kernel_rfl, by kernel_rfl, by kernel_rfl, by kernel_rfl, by kernel_rfl, by kernel_rfl, by kernel_rfl⟩, (by repeat' first | exact trivial | exact rfl | kernel_rfl | exact Dle.of_eq rfl | exact MLe.of_eq rfl | exact Dle.i (by omega) | exact Dle.i (by simp only [Int.toNat_natCast] at *; omega) | exact Dle.nil | exact Dle.rc Dle.nil | exact Option.some_ne_none _ | exact Or.inl rfl | exact Or.inr trivial | omega | (simp only [Int.toNat_natCast] at *; omega) | (intro _ _ _ _; exact Dle.of_eq rfl) | refine And.intro ?_ ?_)⟩, by first | omega | (dsimp only; omega)⟩
      | exact Dle.bo (by rw [hK]; simp_all)
      | trace_state
  · repeat' first
      | (refine facW_intro ?_; intro _)
      | refine Or.inl ?_
      | ((conv => whnf); first | (refine condW_dec ?_ ?_ <;> intro _ <;> try (exfalso; omega)) | refine condW_not ?_ | (refine condW_bool ?_ ?_ <;> intro _ <;> try (exfalso; omega)) | (refine nbC_t (fun _ => ?_) ?_) | (refine nbC_f ?_ (fun _ => ?_)))
      | refine And.intro (by first | omega | (simp only [Int.toNat_natCast] at *; omega) | (simp only [Nat.reduceAdd, Int.cast_ofNat_Int, true_and, and_true]; omega) | kernel_rfl) ?_
      | refine RegW.run ?_
      | fail
    exact Dle.bo (by rw [hK, amongB_end (by omega)])
end
end Go.Proofs.YtkjflkbjepdaaaaGreatDoor
namespace Go.Proofs.YtkjflkbjepdaaaaGreatDoor
open Go.RowKit
set_option linter.unusedVariables false
set_option linter.unusedSimpArgs false
section
variable (E : Env)
set_option maxRecDepth 100000
set_option maxHeartbeats 8000000 in
theorem lHolds_sp (hML : ∀ w, E.G w → ML w) (v : Vu) (hv : itemE v = 0) : ∀ (N : Nat) (c : Cd), SizeOf.sizeOf c < N → c.wt ≤ 100000000 → condE c = 0 → Sp (cx Tryz.prog mixed tyT_ok E) 26 [encC c, encV v] (dB (hold v c))
  | 0, c, h, _, _ => by omega
  | N + 1, c, h, hw, hc => by
    have hwe := c.wt_eq
    rw [condE_eq] at hc
    have hcc : condH c = 0 ∧ condL c.kids = 0 := by
      by_cases h0 : condH c = 0
      · rw [if_pos h0] at hc; exact ⟨h0, hc⟩
      · rw [if_neg h0] at hc; exact absurd hc h0
    obtain ⟨hH, hL⟩ := hcc
    have hF : ¬ condF c.op c.kids.length := by
      unfold condH at hH
      intro hF
      rw [if_pos hF] at hH
      cases hH
    unfold condF at hF
    have ih := fun x (hx : x ∈ c.kids) => lHolds_sp hML v hv N x (by have := kids_lt c x hx; omega) (by have := Cd.wt_mem c.kids x hx; omega) (condL_mem _ hL x hx)
    have hs := lSteps_sp E c.route (by omega)
    have e : (if routeOk false c.route = true then (partsR c.route).map lstOf else []) = (if routeOk false c.route = true then partsR c.route else []).map lstOf := by split <;> rfl
    rw [e] at hs
    have ha := lAt_sp E v _ (parts_ok (s := c.route)) hv
    have hh : atP (if routeOk false c.route = true then partsR c.route else []) v = hasR v c.route := rfl
    rw [hh] at ha
    obtain ⟨r, hr⟩ : ∃ r, r = hold v c := ⟨_, rfl⟩
    rw [← hr]
    rw [hold_eq] at hr
    have hxr := item_range (hasR_ok (s := c.route) hv)
    generalize hasR v c.route = y at hr ha hxr
    have hcmp := compare_sp E _ y c.value (Nat.lt_succ_self _)
    have hth := there_sp E y
    have ham1 := among_sp E y.items c.value
    have ham2 := among_sp E c.value.items y
    have hct := contains_sp E hML y.text c.value.text (by omega)
    have hpf := hasPrefix_sp E y.text c.value.text
    unfold holdH orderedB at hr
    generalize cmpV y c.value = n at hr hcmp
    generalize thereB y = b1 at hr hth
    generalize amongB y.items c.value = b2 at hr ham1
    generalize amongB c.value.items y = b3 at hr ham2
    generalize hasB y.text c.value.text = b4 at hr hct
    generalize preB y.text c.value.text = b5 at hr hpf
    generalize routeOk false c.route = b6 at hs ha
    by_cases ho : c.op ≤ 2
    · have hr : r = if c.op = 1 then holdAll v c.kids else holdAny v c.kids := by rw [hr]; grind
      refine Sp.body Tryz.func26 (by kernel_rfl) rfl (by kernel_rfl) (by kernel_rfl) (by kernel_rfl) ?_
      repeat' first
        | (refine facW_intro ?_; intro _)
        | refine Or.inl ?_
        | ((conv => whnf); first | (refine condW_dec ?_ ?_ <;> intro _ <;> try (exfalso; omega)) | refine condW_not ?_ | (refine condW_bool ?_ ?_ <;> intro _ <;> try (exfalso; omega)) | (refine nbC_t (fun _ => ?_) ?_) | (refine nbC_f ?_ (fun _ => ?_)))
        | refine And.intro (by first | omega | (simp only [Int.toNat_natCast] at *; omega) | (simp only [Nat.reduceAdd, Int.cast_ofNat_Int, true_and, and_true]; omega) | kernel_rfl) ?_
        | refine RegW.run ?_
        | fail
      all_goals
        refine ⟨Nat, fun k => [(21, i64 k)], fun k => [], [2, 3], fun k => [], fun k => k ≤ c.kids.length ∧ r = if c.op = 1 then holdAll v (c.kids.drop k) else holdAny v (c.kids.drop k), fun k => c.kids.length - k, ⟨0, ⟨by omega, by rw [hr, List.drop_zero]⟩, ⟨[], ⟨by kernel_rfl, by kernel_rfl, by kernel_rfl, by kernel_rfl, by kernel_rfl, by kernel_rfl, by kernel_rfl⟩, (by repeat' first | exact trivial | exact rfl | kernel_rfl | exact Dle.of_eq rfl | exact MLe.of_eq rfl | exact Dle.i (by omega) | exact Dle.i (by simp only [Int.toNat_natCast] at *; omega) | exact Dle.nil | exact Dle.rc Dle.nil | exact Option.some_ne_none _ | exact Or.inl rfl | exact Or.inr trivial | omega | (simp only [Int.toNat_natCast] at *; omega) | (intro _ _ _ _; exact Dle.of_eq rfl) | refine And.intro ?_ ?_)⟩⟩, fun k hk => ?_⟩
        obtain ⟨hk, hK⟩ := hk
        by_cases hlt : k < c.kids.length
        · have h1 := ih _ (getD_mem c.kids .zero k hlt)
          rw [holdAll_drop hlt, holdAny_drop hlt] at hK
          generalize hold v (c.kids.getD k .zero) = b at h1 hK
          repeat' first
            | (refine facW_intro ?_; intro _)
            | refine Or.inl ?_
            | ((conv => whnf); first | (refine condW_dec ?_ ?_ <;> intro _ <;> try (exfalso; omega)) | refine condW_not ?_ | (refine condW_bool ?_ ?_ <;> intro _ <;> try (exfalso; omega)) | (refine nbC_t (fun _ => ?_) ?_) | (refine nbC_f ?_ (fun _ => ?_)))
            | refine And.intro (by first | omega | (simp only [Int.toNat_natCast] at *; omega) | (simp only [Nat.reduceAdd, Int.cast_ofNat_Int, true_and, and_true]; omega) | kernel_rfl) ?_
            | refine RegW.run ?_
            | refine ⟨_, h1, ?_⟩
            | fail
          all_goals first
            | exact ⟨k + 1, ⟨by omega, by rw [hK]; simp_all⟩, ⟨[], ⟨by kernel_rfl, by kernel_rfl, by kernel_rfl, by kernel_rfl, by kernel_rfl, by kernel_rfl, by kernel_rfl⟩, (by repeat' first | exact trivial | exact rfl | kernel_rfl | exact Dle.of_eq rfl | exact MLe.of_eq rfl | exact Dle.i (by omega) | exact Dle.i (by simp only [Int.toNat_natCast] at *; omega) | exact Dle.nil | exact Dle.rc Dle.nil | exact Option.some_ne_none _ | exact Or.inl rfl | exact Or.inr trivial | omega | (simp only [Int.toNat_natCast] at *; omega) | (intro _ _ _ _; exact Dle.of_eq rfl) | refine And.intro ?_ ?_)⟩, by first | omega | (dsimp only; omega)⟩
            | exact Dle.bo (by rw [hK]; simp_all)
            | trace_state
        · rw [holdAll_end (by omega), holdAny_end (by omega)] at hK
          repeat' first
            | (refine facW_intro ?_; intro _)
            | refine Or.inl ?_
            | ((conv => whnf); first | (refine condW_dec ?_ ?_ <;> intro _ <;> try (exfalso; omega)) | refine condW_not ?_ | (refine condW_bool ?_ ?_ <;> intro _ <;> try (exfalso; omega)) | (refine nbC_t (fun _ => ?_) ?_) | (refine nbC_f ?_ (fun _ => ?_)))
            | refine And.intro (by first | omega | (simp only [Int.toNat_natCast] at *; omega) | (simp only [Nat.reduceAdd, Int.cast_ofNat_Int, true_and, and_true]; omega) | kernel_rfl) ?_
            | refine RegW.run ?_
            | fail
          all_goals first
            | exact Dle.bo (by rw [hK]; grind)
            | trace_state
    · by_cases h3 : c.op = 3
      · have hk0 : 0 < c.kids.length := by omega
        have h1 := ih _ (getD_mem c.kids .zero 0 hk0)
        have hr : r = !(hold v (c.kids.getD 0 .zero)) := by rw [hr, ← holdFst_eq hk0]; grind
        generalize hold v (c.kids.getD 0 .zero) = b at h1 hr
        refine Sp.body Tryz.func26 (by kernel_rfl) rfl (by kernel_rfl) (by kernel_rfl) (by kernel_rfl) ?_
        repeat' first
          | (refine facW_intro ?_; intro _)
          | refine Or.inl ?_
          | ((conv => whnf); first | (refine condW_dec ?_ ?_ <;> intro _ <;> try (exfalso; omega)) | refine condW_not ?_ | (refine condW_bool ?_ ?_ <;> intro _ <;> try (exfalso; omega)) | (refine nbC_t (fun _ => ?_) ?_) | (refine nbC_f ?_ (fun _ => ?_)))
          | refine And.intro (by first | omega | (simp only [Int.toNat_natCast] at *; omega) | (simp only [Nat.reduceAdd, Int.cast_ofNat_Int, true_and, and_true]; omega) | kernel_rfl) ?_
          | refine RegW.run ?_
          | refine ⟨_, h1, ?_⟩
          | fail
        all_goals first
          | exact Dle.bo (by rw [hr])
          | trace_state
      · rw [if_neg (by omega), if_neg (by omega), if_neg h3] at hr
        refine Sp.body Tryz.func26 (by kernel_rfl) rfl (by kernel_rfl) (by kernel_rfl) (by kernel_rfl) ?_
        repeat' first
          | (refine facW_intro ?_; intro _)
          | refine Or.inl ?_
          | ((conv => whnf); first | (refine condW_dec ?_ ?_ <;> intro _ <;> try (exfalso; omega)) | refine condW_not ?_ | (refine condW_bool ?_ ?_ <;> intro _ <;> try (exfalso; omega)) | (refine nbC_t (fun _ => ?_) ?_) | (refine nbC_f ?_ (fun _ => ?_)))
          | refine And.intro (by first | omega | (simp only [Int.toNat_natCast] at *; omega) | (simp only [Nat.reduceAdd, Int.cast_ofNat_Int, true_and, and_true]; omega) | kernel_rfl) ?_
          | refine RegW.run ?_
          | refine ⟨_, hs, ?_⟩
          | refine ⟨_, ha, ?_⟩
          | refine ⟨_, hcmp, ?_⟩
          | refine ⟨_, hth, ?_⟩
          | refine ⟨_, ham1, ?_⟩
          | refine ⟨_, ham2, ?_⟩
          | refine ⟨_, hct, ?_⟩
          | refine ⟨_, hpf, ?_⟩
          | fail
        all_goals first
          | exact Dle.bo (by rw [hr]; grind)
          | trace_state
end
end Go.Proofs.YtkjflkbjepdaaaaGreatDoor
